/-
  Tries: what is found, in the words of the memory; joins of segments. No program is named here.
-/
import Derived.Test.YtlofiaaacepgmaaGreatDoorTrM
import Derived.Lib.Join
namespace Go.Proofs.YtlofiaaacepgmaaGreatDoor.TrQ
open Go Go.RowKit Go.Proofs Go.Proofs.YtlofiaaacepgmaaGreatDoor.Sep Go.Proofs.YtlofiaaacepgmaaGreatDoor.Frame Go.Proofs.YtlofiaaacepgmaaGreatDoor.Mp Go.Proofs.YtlofiaaacepgmaaGreatDoor.TrP Go.Proofs.YtlofiaaacepgmaaGreatDoor.TrM

theorem join_eq : ∀ l : List Tx, Lib.join l [47] = joinS l
  | [] => rfl
  | [x] => by rw [Lib.join_one]; rfl
  | x :: y :: r => by
    have ih := join_eq (y :: r)
    rw [joinS_cons _ (by simp), ← ih]
    rw [Lib.join_cons, Lib.join_cons]
    simp [Lib.joinTail]
theorem joinS_le : ∀ (l : List Tx) (b : Nat), (∀ x ∈ l, x.length ≤ b) → (joinS l).length ≤ l.length * (b + 1)
  | [], _, _ => by simp [joinS]
  | [x], b, h => by have := h x (by simp); simp [joinS]; omega
  | x :: y :: r, b, h => by
    have h1 := h x (by simp)
    have ih := joinS_le (y :: r) b (fun z hz => h z (by simp [hz]))
    rw [joinS_cons _ (by simp)]
    simp only [List.length_append, List.length_cons] at ih ⊢
    rw [Nat.add_mul (r.length + 1) 1, Nat.one_mul]
    omega
theorem fits_len : ∀ (ks : List Key) (path : List Tx), fits ks path = true → ks.length ≤ path.length
  | [], _, _ => by simp
  | k :: ks, [], h => by cases k <;> simp [fits] at h
  | .lit t :: ks, x :: r, h => by
    simp [fits] at h
    have := fits_len ks r h.2
    simp; omega
  | .par :: ks, x :: r, h => by
    simp [fits] at h
    have := fits_len ks r h.2
    simp; omega
  | .rst :: ks, x :: r, h => by
    simp [fits] at h
    subst h
    simp
/-! ### The fields, as cells -/
abbrev Fd := Tx × Tx
def fE (x : Fd) : List Value := [.string ⟨x.1.toArray⟩, .string ⟨x.2.toArray⟩]
def fldV (l : List Fd) : List Value := l.flatMap fE
theorem fldV_length (l : List Fd) : (fldV l).length = l.length * 2 := by
  induction l with
  | nil => rfl
  | cons x l ih => simp only [fldV, List.flatMap_cons, List.length_append, List.length_cons] at ih ⊢; rw [ih]; simp [fE]; omega
theorem fldV_append (l m : List Fd) : fldV (l ++ m) = fldV l ++ fldV m := by simp [fldV]
theorem elF {w : World} {a : Option Addr} {n c : Nat} {l : List Fd} (h : Sl w 2 (.slice a n c) n (fldV l)) {i : Nat} {x : Fd} (hx : l[i]? = some x) :
    ∃ ab ao, a = some ⟨ab, ao, none⟩ ∧ w.cell? ⟨ab, ao + i * 2, none⟩ = some (.string ⟨x.1.toArray⟩) ∧ w.cell? ⟨ab, ao + i * 2 + 1, none⟩ = some (.string ⟨x.2.toArray⟩) := by
  have hg := flatMap_get (E := fE) (size := 2) (fun _ => rfl) l i x hx
  have hlen : 0 < (fldV l).length := by
    have := (List.getElem?_eq_some_iff.1 (show (fldV l)[i * 2 + 0]? = some (.string ⟨x.1.toArray⟩) from hg 0 (by omega))).1
    omega
  obtain ⟨ab, ao, rfl, hc⟩ := sl_addr h hlen
  exact ⟨ab, ao, rfl, hc (i * 2 + 0) _ (hg 0 (by omega)), hc (i * 2 + 1) _ (hg 1 (by omega))⟩

theorem params_drop (l path : List Tx) (i : Nat) (s : Tx) (h : l[i]? = some s) : params (l.drop i) (path.drop i) =
    (if s.head? = some 58 then [(s.drop 1, (path.drop i).headD [])] else if s.head? = some 42 then [(s.drop 1, joinS (path.drop i))] else []) ++ params (l.drop (i + 1)) (path.drop (i + 1)) := by
  obtain ⟨hi, e⟩ := List.getElem?_eq_some_iff.1 h
  rw [List.drop_eq_getElem_cons hi, e, params, List.tail_drop]
theorem headD_drop (path : List Tx) (i : Nat) (y : Tx) (h : path[i]? = some y) : (path.drop i).headD [] = y := by
  obtain ⟨hi, e⟩ := List.getElem?_eq_some_iff.1 h
  rw [List.drop_eq_getElem_cons hi, e]; rfl
theorem params_le : ∀ l path : List Tx, (params l path).length ≤ l.length
  | [], _ => by simp [params]
  | s :: l, path => by
    have := params_le l path.tail
    unfold params
    rw [List.length_append, List.length_cons]
    split
    · simp; omega
    · split
      · simp; omega
      · simp; omega
/-- What is found at the root. -/
theorem found_some {F : Bag} {root : Nat} {es : EntsV} (h : InvE F root es) (hg : TrP.Good es) (path : List Tx) {k : List Key} (hb : bestE es [] path = some k) :
    ∃ q nd v l, bestF F (some root) path = some q ∧ getM q F = some nd ∧ getM k es = some v ∧ nd.pat = v.1 ∧ nd.x = v.2 ∧ splitP v.1 = some l ∧ fits (keysOf l) path = true ∧ findT es path = some (v.1, v.2, params l path) := by
  obtain ⟨m, hk, hf, hs⟩ := best_fits es path [] k hb
  rw [List.nil_append] at hk
  subst hk
  have h1 := bestF_eq h hg path []
  rw [reach_nil, hb, Option.bind_some] at h1
  cases hv : getM k es with
  | none => rw [hv] at hs; cases hs
  | some v =>
    cases hq : reach F root k with
    | none => exact absurd hq (reach_of_NE h (ms := []) (by simpa using hs))
    | some q =>
      obtain ⟨_, nd, hnd, hp, hx⟩ := h.node k q hq
      obtain ⟨l, hl, hkl⟩ := hg.pat hv
      refine ⟨q, nd, v, l, by rw [h1, hq], hnd, rfl, by rw [hp, hv]; rfl, hx v hv, hl, by rw [← hkl]; exact hf, ?_⟩
      unfold findT
      rw [hb]
      simp only [hv, hl, Option.getD_some]
theorem found_none {F : Bag} {root : Nat} {es : EntsV} (h : InvE F root es) (hg : TrP.Good es) (path : List Tx) (hb : bestE es [] path = none) : bestF F (some root) path = none ∧ findT es path = none := by
  have h1 := bestF_eq h hg path []
  rw [reach_nil, hb] at h1
  refine ⟨h1, ?_⟩
  unfold findT
  rw [hb]
end Go.Proofs.YtlofiaaacepgmaaGreatDoor.TrQ
