/-
  From arguments that read as data to what a walk is told of them; from a walk to the statement. No law is named here.
-/
import Derived.Test.YtldobldhmodjlaaSep
import Derived.ProofKit
import Derived.OpenShut
import Derived.ShutString
import Derived.ChangeOld
import Derived.Below
import Derived.Deep.Slices
import Derived.Deep.Strs
import Derived.SizedLaws
namespace Go.Proofs.Ytldobldhmodjlaa.Frame
open Go Go.RowKit Go.Proofs.Ytldobldhmodjlaa.Sep

/-- What a law leaves: true, and of its own memory nothing. -/
def Law (W : World) (R : Asn) (e : Ending) (w' : World) : Prop := e = .returned (.bool true) ∧ St W w' R

theorem exists_list {T : Type} {Q : Nat → T → Prop} : ∀ n : Nat, (∀ i, i < n → ∃ x, Q i x) → ∃ xs : List T, xs.length = n ∧ ∀ i x, xs[i]? = some x → Q i x
  | 0, _ => ⟨[], rfl, fun i x h => by simp at h⟩
  | n + 1, h => by
    obtain ⟨xs, hl, hx⟩ := exists_list n (fun i hi => h i (by omega))
    obtain ⟨x, hq⟩ := h n (by omega)
    refine ⟨xs ++ [x], by simp [hl], fun i y hy => ?_⟩
    by_cases hi : i < n
    · rw [List.getElem?_append_left (by omega)] at hy
      exact hx i y hy
    · rw [List.getElem?_append_right (by omega)] at hy
      have hi' : i = n := by
        have := (List.getElem?_eq_some_iff.1 hy).1
        simp at this
        omega
      subst hi'
      rw [hl, Nat.sub_self] at hy
      simp at hy
      subst hy
      exact hq

theorem cells?_get {w : World} {base : Nat} {a : Addr} {n : Nat} {cs : List Value} (h : w.cells? base a n = some cs) : cs.length = n ∧ ∀ j u, cs[j]? = some u → w.cell? (a.add j) = some u := by
  obtain ⟨_, hl, hc⟩ := World.cells?_some h
  refine ⟨hl, fun j u hu => ?_⟩
  have hj : j < n := by rw [← hl]; exact (List.getElem?_eq_some_iff.1 hu).1
  rw [hc j hj]; exact hu

section
variable {P : Program} {H : Type} {enc : TypeId × Value → H} {w : World} {base : Nat} {spare : Nat → Bool} {held : Bool}

/-- A slice that came in, whose elements are known by what they hold: E x are the cells of x. -/
theorem slice_in {T : Type} {E : T → List Value} {Ok : T → Prop} {t e : TypeId} {size fuel : Nat} {a : Option Addr} {len cap : Nat} {x : DataW H × List MemPlace} (ht : P.underlying t = some (.slice e)) (hs : P.cellsOf e = size)
    (hE : ∀ (n : Nat) (cs : List Value) (y : DataW H × List MemPlace), DataW.trod enc P w base spare held n e cs = some y → ∃ x, cs = E x ∧ Ok x)
    (hl : ∀ x, (E x).length = size) (hsz : 0 < size)
    (h : DataW.trod enc P w base spare held fuel t [.slice a len cap] = some x) :
    ∃ xs : List T, xs.length = len ∧ Sl w size (.slice a len cap) len (xs.flatMap E) ∧ ∀ x ∈ xs, Ok x := by
  subst hs
  have hfl : ∀ xs : List T, (xs.flatMap E).length = xs.length * P.cellsOf e := by
    intro xs
    induction xs with
    | nil => simp
    | cons y ys ih => rw [List.flatMap_cons, List.length_append, ih, hl, List.length_cons, Nat.add_mul, Nat.one_mul, Nat.add_comm]
  rcases Deep.open_slice ht h with ⟨hv, _⟩ | ⟨ad, l, c, m, n, D, Pl, hv, _, hlc, hcm, hm, _, hel⟩
  · simp at hv
    obtain ⟨rfl, rfl, rfl⟩ := hv
    exact ⟨[], rfl, by simpa using Sl.nil w (P.cellsOf e), by simp⟩
  · simp at hv
    obtain ⟨rfl, rfl, rfl⟩ := hv
    have hlm : len ≤ m := by rw [hm]; split <;> omega
    obtain ⟨xs, hxl, hx⟩ := exists_list (T := T) (Q := fun i x => w.cells? base (ad.add (i * P.cellsOf e)) (P.cellsOf e) = some (E x) ∧ Ok x) len (fun i hi => by
      obtain ⟨cs', hc, htr⟩ := hel i (by omega)
      obtain ⟨y, rfl, hok⟩ := hE _ _ _ htr
      exact ⟨y, hc, hok⟩)
    refine ⟨xs, hxl, ⟨by rw [hfl, hxl], some ad, cap, rfl, hlc, hcm, (by intro h; cases h), fun ad' hd j u hu => ?_⟩, fun y hy => ?_⟩
    · cases hd
      have key : ∀ (ys : List T) (k : Nat), (∀ i y, ys[i]? = some y → w.cells? base (ad.add ((k + i) * P.cellsOf e)) (P.cellsOf e) = some (E y)) → ∀ j u, (ys.flatMap E)[j]? = some u → w.cell? (ad.add (k * P.cellsOf e + j)) = some u := by
        intro ys
        induction ys with
        | nil => intro k _ j u hu; simp at hu
        | cons y ys ih =>
          intro k hk j u hu
          rw [List.flatMap_cons] at hu
          by_cases hj : j < P.cellsOf e
          · rw [List.getElem?_append_left (by rw [hl]; exact hj)] at hu
            have := (cells?_get (hk 0 y rfl)).2 j u hu
            rw [add_add] at this
            simpa using this
          · rw [List.getElem?_append_right (by rw [hl]; omega), hl] at hu
            have := ih (k + 1) (fun i z hz => by have := hk (i + 1) z hz; rwa [show k + 1 + i = k + (i + 1) from by omega]) _ u hu
            rwa [show (k + 1) * P.cellsOf e + (j - P.cellsOf e) = k * P.cellsOf e + j from by rw [Nat.add_mul]; omega] at this
      have := key xs 0 (fun i y hy => by rw [Nat.zero_add]; exact (hx i y hy).1) j u hu
      simpa using this
    · obtain ⟨i, hi⟩ := List.getElem?_of_mem hy
      exact (hx i y hi).2

/-- A string, as its bytes. -/
theorem string_list (s : ByteArray) : ∃ l : List UInt8, s = ⟨l.toArray⟩ := ⟨s.data.toList, by cases s; simp⟩
theorem string_in {t : TypeId} {n : Nat} {cs : List Value} {y : DataW H × List MemPlace} (ht : P.underlying t = some .string) (h : DataW.trod enc P w base spare held n t cs = some y) :
    ∃ l : List UInt8, cs = [.string ⟨l.toArray⟩] ∧ l.length ≤ maxLen := by
  obtain ⟨s, rfl, _, hs⟩ := DataW.trod_string ht h
  obtain ⟨l, rfl⟩ := string_list s
  exact ⟨l, rfl, by simpa [ByteArray.size] using hs⟩
theorem int_in {t : TypeId} {k : IntKind} {n : Nat} {cs : List Value} {y : DataW H × List MemPlace} (ht : P.underlying t = some (.int k)) (h : DataW.trod enc P w base spare held n t cs = some y) :
    ∃ z : Int, cs = [.int k z] ∧ (Lit.int k z).wf = true := by
  obtain ⟨z, rfl, _, hz⟩ := DataW.trod_int ht h
  exact ⟨z, rfl, hz⟩
theorem bool_in {t : TypeId} {n : Nat} {cs : List Value} {y : DataW H × List MemPlace} (ht : P.underlying t = some .bool) (h : DataW.trod enc P w base spare held n t cs = some y) :
    ∃ z : Bool, cs = [.bool z] ∧ True := by
  obtain ⟨z, rfl, _⟩ := DataW.trod_bool ht h
  exact ⟨z, rfl, trivial⟩
end

end Go.Proofs.Ytldobldhmodjlaa.Frame
