import Derived.Test.YthaekkmnglhinaaTpS
namespace Go.Proofs.Ythaekkmnglhinaa.TpT
open Go Go.RowKit Go.Proofs Go.Proofs.Ythaekkmnglhinaa.Sep Go.Proofs.Ythaekkmnglhinaa.Reg Go.Proofs.Ythaekkmnglhinaa.Frame Go.Proofs.Ythaekkmnglhinaa.Strs Go.Proofs.Ythaekkmnglhinaa.TpP Go.Proofs.Ythaekkmnglhinaa.TpA Go.Proofs.Ythaekkmnglhinaa.TpI Go.Proofs.Ythaekkmnglhinaa.TpK Go.Proofs.Ythaekkmnglhinaa.TpL Go.Proofs.Ythaekkmnglhinaa.TpM Go.Proofs.Ythaekkmnglhinaa.TpN Go.Proofs.Ythaekkmnglhinaa.TpO Go.Proofs.Ythaekkmnglhinaa.TpS

section
variable {W w : World} {R : Asn} (p : Nat) (l : List Pr) (hl : l.length ≤ 1000000) (t : Tx) (k : Int)
include hl
theorem Add_at (r : List Pr) (n : Int) (hr : addP l t k = r) (hn : (if (t, k) ∈ l then 5 else 0) = n) (h : St W w (star (IsR p l) R)) :
    Calls Try.prog 11 #[.pointer (some ⟨p, 0, none⟩), kS t, .int .i64 k] w fun e w' => e = .returned (.int .i64 n) ∧ St W w' (star (IsR p r) R) :=
  (Add_any p l hl t k h).mono fun _ _ ⟨h1, h2⟩ => ⟨by rw [h1, hn], hr ▸ h2⟩
theorem Drop_at (r : List Pr) (b : Bool) (hr : dropP l t k = r) (hb : decide ((t, k) ∈ l) = b) (h : St W w (star (IsR p l) R)) :
    Calls Try.prog 13 #[.pointer (some ⟨p, 0, none⟩), kS t, .int .i64 k] w fun e w' => e = .returned (.bool b) ∧ St W w' (star (IsR p r) R) :=
  (Drop_any p l hl t k h).mono fun _ _ ⟨h1, h2⟩ => ⟨by rw [h1, hb], hr ▸ h2⟩
theorem Hears_at (b : Bool) (hb : decide ((t, k) ∈ l) = b) (h : St W w (star (IsR p l) R)) :
    Calls Try.prog 14 #[.pointer (some ⟨p, 0, none⟩), kS t, .int .i64 k] w fun e w' => e = .returned (.bool b) ∧ St W w' (star (IsR p l) R) :=
  (Hears_any p l hl t k h).mono fun _ _ ⟨h1, h2⟩ => ⟨by rw [h1, hb], h2⟩
theorem By_at (o : List Tx) (ho : byP l k = o) (h : St W w (star (IsR p l) R)) :
    Calls Try.prog 23 #[.pointer (some ⟨p, 0, none⟩), .int .i64 k] w fun e w' => ∃ a c, e = .returned (.slice a o.length c) ∧ St W w' (star (Row 9 1 (.slice a o.length c) o.length (o.map kS)) (star (IsR p l) R)) := by
  subst ho; exact By_any p l hl k h
theorem DropAll_at (o : List Tx) (r : List Pr) (ho : byP l k = o) (hr : dropAllP l k = r) (h : St W w (star (IsR p l) R)) :
    Calls Try.prog 21 #[.pointer (some ⟨p, 0, none⟩), .int .i64 k] w fun e w' => ∃ a c, e = .returned (.slice a o.length c) ∧ St W w' (star (Row 9 1 (.slice a o.length c) o.length (o.map kS)) (star (IsR p r) R)) := by
  subst ho; subst hr; exact DropAll_any p l hl k h
theorem Topics_at (htl : ∀ x ∈ l, x.1.length ≤ 1000000) (o : List Tx) (ho : topicsP l = o) (h : St W w (star (IsR p l) R)) :
    Calls Try.prog 24 #[.pointer (some ⟨p, 0, none⟩)] w fun e w' => ∃ a c, e = .returned (.slice a o.length c) ∧ St W w' (star (Row 9 1 (.slice a o.length c) o.length (o.map kS)) (star (IsR p l) R)) := by
  subst ho; exact Topics_any p l hl htl h
end
theorem topics_eq {l : List Pr} {o : List Tx} (ho : Rise o) (h : ∀ x, x ∈ topsP l ↔ x ∈ o) : topicsP l = o :=
  rise_unique (topicsP_rise l) ho fun x => by unfold topicsP; rw [(List.mergeSort_perm _ _).mem_iff]; exact h x
theorem litI {W w : World} {g n : Nat} {l : List Int} {R : Asn} (hn : l.length = n) (hm : n ≤ 1000000) (h : St W w (star (pt g (.cells (l.map kI).toArray 3 (0, 0))) R)) : Sl w 1 (.slice (some ⟨g, 0, none⟩) n n) n (l.map kI) :=
  (St.mkRow (size := 1) (n := n) (cap := n) (xs := l.map kI) h (Nat.le_refl _) (by unfold maxLen; omega) (by simp [hn]) (by
    show (l.map kI).take (n * 1) = l.map kI
    exact List.take_of_length_le (by simp [hn]))).rowSl
theorem litS {W w : World} {g n : Nat} {l : List Tx} {R : Asn} (hn : l.length = n) (hm : n ≤ 1000000) (h : St W w (star (pt g (.cells (l.map kS).toArray 9 (0, 0))) R)) : Sl w 1 (.slice (some ⟨g, 0, none⟩) n n) n (l.map kS) :=
  (St.mkRow (size := 1) (n := n) (cap := n) (xs := l.map kS) h (Nat.le_refl _) (by unfold maxLen; omega) (by simp [hn]) (by
    show (l.map kS).take (n * 1) = l.map kS
    exact List.take_of_length_le (by simp [hn]))).rowSl
end Go.Proofs.Ythaekkmnglhinaa.TpT
