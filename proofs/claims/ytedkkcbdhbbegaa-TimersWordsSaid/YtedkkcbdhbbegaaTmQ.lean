/-
  Timers: the document's list, in the order in which they were set, beside the sorted one. No program is named here.
-/
import Derived.Test.YtedkkcbdhbbegaaTmP
namespace Go.Proofs.Ytedkkcbdhbbegaa.TmQ
open Go.Proofs.Ytedkkcbdhbbegaa.TmP
set_option linter.unusedSectionVars false

section
variable {κ : Type} [DecidableEq κ] (lt : κ → κ → Bool)
def bestTo (w : List (κ × Int)) : Nat → Nat
  | 0 => 0
  | 1 => 0
  | i + 2 => match w[i + 1]?, w[bestTo w (i + 1)]? with
    | some x, some y => if bef lt x y then i + 1 else bestTo w (i + 1)
    | _, _ => bestTo w (i + 1)
structure Rel (l w : List (κ × Int)) : Prop where
  perm : l.Perm w
  srt : Srt lt l
  nd : (keysOf w).Nodup
variable {lt} (o : Ordr lt)

theorem Rel.ndl {l w : List (κ × Int)} (h : Rel lt l w) : (keysOf l).Nodup := (h.perm.map (fun x : κ × Int => x.1)).nodup_iff.2 h.nd
theorem Rel.nil : Rel lt ([] : List (κ × Int)) [] := ⟨List.Perm.refl _, List.Pairwise.nil, by simp [keysOf]⟩
theorem Rel.len {l w : List (κ × Int)} (h : Rel lt l w) : l.length = w.length := h.perm.length_eq
theorem key_inj {w : List (κ × Int)} (h : (keysOf w).Nodup) {i j : Nat} (hi : i < w.length) (hj : j < w.length) (e : w[i].1 = w[j].1) : i = j := by
  rcases Nat.lt_trichotomy i j with h1 | h1 | h1
  · exact absurd (by simpa [keysOf] using e) (List.pairwise_iff_getElem.1 h i j (by simpa [keysOf] using hi) (by simpa [keysOf] using hj) h1)
  · exact h1
  · exact absurd (by simpa [keysOf] using e.symm) (List.pairwise_iff_getElem.1 h j i (by simpa [keysOf] using hj) (by simpa [keysOf] using hi) h1)
theorem take_drop_perm {x : κ × Int} {w : List (κ × Int)} {b : Nat} (hb : b < w.length) (hx : w[b] = x) : w.Perm (x :: (w.take b ++ w.drop (b + 1))) ∧ (w.take b ++ w.drop (b + 1)).Sublist w := by
  have ew : w = w.take b ++ x :: w.drop (b + 1) := by
    conv => lhs; rw [← List.take_append_drop b w]
    rw [List.drop_eq_getElem_cons hb, hx]
  constructor
  · conv => lhs; rw [ew]
    exact List.perm_middle
  · conv => rhs; rw [ew]
    exact (List.Sublist.refl _).append (List.sublist_cons_self ..)
theorem bestTo_step {w : List (κ × Int)} {i : Nat} (hi : 1 ≤ i) (hil : i < w.length) (hb : bestTo lt w i < w.length) : bestTo lt w (i + 1) = if bef lt w[i] w[bestTo lt w i] then i else bestTo lt w i := by
  obtain ⟨i, rfl⟩ : ∃ k, i = k + 1 := ⟨i - 1, by omega⟩
  rw [bestTo, List.getElem?_eq_getElem hil, List.getElem?_eq_getElem hb]
theorem bestTo_lt (w : List (κ × Int)) : ∀ i, 1 ≤ i → i ≤ w.length → bestTo lt w i < i
  | 0, h, _ => by omega
  | 1, _, _ => by simp [bestTo]
  | i + 2, _, h => by
    have ih := bestTo_lt w (i + 1) (by omega) (by omega)
    rw [bestTo_step (by omega) (by omega) (by omega)]
    split <;> omega
include o
theorem bestTo_min {w : List (κ × Int)} (hn : (keysOf w).Nodup) : ∀ (i : Nat) (h1 : 1 ≤ i) (h2 : i ≤ w.length), ∀ (j : Nat) (hj : j < i), j ≠ bestTo lt w i → bef lt (w[bestTo lt w i]'(Nat.lt_of_lt_of_le (bestTo_lt w i h1 h2) h2)) (w[j]'(Nat.lt_of_lt_of_le hj h2)) = true
  | 0, h, _ => by omega
  | 1, _, _ => fun j hj hne => by simp [bestTo] at hne; omega
  | i + 2, _, h2 => fun j hj hne => by
    have hlt := bestTo_lt (lt := lt) w (i + 1) (by omega) (by omega)
    have hs := bestTo_step (lt := lt) (w := w) (i := i + 1) (by omega) (by omega) (by omega)
    have ih := bestTo_min hn (i + 1) (by omega) (by omega)
    by_cases hc : bef lt w[i + 1] (w[bestTo lt w (i + 1)]'(by omega)) = true
    · have e : bestTo lt w (i + 2) = i + 1 := by rw [hs, if_pos hc]
      simp only [e] at hne ⊢
      by_cases hjb : j = bestTo lt w (i + 1)
      · subst hjb; exact hc
      · exact bef_tr o hc (ih j (by omega) hjb)
    · have e : bestTo lt w (i + 2) = bestTo lt w (i + 1) := by rw [hs, if_neg hc]
      simp only [e] at hne ⊢
      by_cases hji : j = i + 1
      · subst hji
        rcases bef_tri o (w[bestTo lt w (i + 1)]'(by omega)) (w[i + 1]'(by omega)) (fun e2 => hne (key_inj hn (by omega) (by omega) e2).symm) with h | h
        · exact h
        · exact absurd h hc
      · exact ih j (by omega) hne
/-- The best one of the document's is the first of the sorted ones; without it the two go on alike. -/
theorem Rel.best {x : κ × Int} {l w : List (κ × Int)} (h : Rel lt (x :: l) w) : ∃ hb : bestTo lt w w.length < w.length, w[bestTo lt w w.length] = x ∧ Rel lt l (w.take (bestTo lt w w.length) ++ w.drop (bestTo lt w w.length + 1)) := by
  have hl := h.len
  have hpos : 1 ≤ w.length := by rw [← hl]; simp
  have hb := bestTo_lt (lt := lt) w w.length hpos (Nat.le_refl _)
  have hmin := bestTo_min o h.nd w.length hpos (Nat.le_refl _)
  refine ⟨hb, ?_, ?_⟩
  · obtain ⟨j, hj, hjx⟩ := List.getElem_of_mem (h.perm.mem_iff.1 (List.mem_cons_self ..))
    by_cases hjb : j = bestTo lt w w.length
    · subst hjb; exact hjx
    · have h1 := hmin j hj hjb
      rw [hjx] at h1
      have hm : w[bestTo lt w w.length] ∈ x :: l := h.perm.mem_iff.2 (List.getElem_mem hb)
      rcases List.mem_cons.1 hm with e | e
      · exact e
      · have := (List.pairwise_cons.1 h.srt).1 _ e
        rw [bef_asymm o this] at h1; cases h1
  · have hx : w[bestTo lt w w.length] = x := by
      obtain ⟨j, hj, hjx⟩ := List.getElem_of_mem (h.perm.mem_iff.1 (List.mem_cons_self ..))
      by_cases hjb : j = bestTo lt w w.length
      · subst hjb; exact hjx
      · have h1 := hmin j hj hjb
        rw [hjx] at h1
        have hm : w[bestTo lt w w.length] ∈ x :: l := h.perm.mem_iff.2 (List.getElem_mem hb)
        rcases List.mem_cons.1 hm with e | e
        · exact e
        · have := (List.pairwise_cons.1 h.srt).1 _ e
          rw [bef_asymm o this] at h1; cases h1
    obtain ⟨hp, hs⟩ := take_drop_perm hb hx
    exact ⟨(List.perm_cons x).1 (h.perm.trans hp), (List.pairwise_cons.1 h.srt).2, h.nd.sublist (hs.map _)⟩
omit o
theorem cancelP_filter {k : κ} {l : List (κ × Int)} (hn : (keysOf l).Nodup) : cancelP k l = l.filter fun x => decide (x.1 ≠ k) := by
  induction l with
  | nil => rfl
  | cons y r ih =>
    simp only [keysOf, List.map_cons, List.nodup_cons] at hn
    have ih := ih hn.2
    unfold cancelP at ih ⊢
    by_cases hy : y.1 = k
    · rw [List.eraseP_cons_of_pos (by simpa using hy), List.filter_cons_of_neg (by simp [hy])]
      refine (List.filter_eq_self.2 fun a ha => ?_).symm
      simp only [ne_eq, decide_not, Bool.not_eq_true', decide_eq_false_iff_not]
      intro e
      exact hn.1 (by rw [hy, ← e]; exact List.mem_map_of_mem (f := (·.1)) ha)
    · rw [List.eraseP_cons_of_neg (by simpa using hy), List.filter_cons_of_pos (by simp [hy]), ih]
theorem cancelP_eq_drop {k : κ} {w : List (κ × Int)} (h : k ∈ keysOf w) : cancelP k w = w.take (atP k w) ++ w.drop (atP k w + 1) := by
  unfold cancelP atP
  rw [List.eraseP_eq_eraseIdx]
  have hi : w.findIdx (fun x => decide (x.1 = k)) < w.length := by
    rw [List.findIdx_lt_length]
    obtain ⟨x, hx, rfl⟩ := List.mem_map.1 h
    exact ⟨x, hx, by simp⟩
  rw [List.findIdx?_eq_some_of_exists (by obtain ⟨x, hx, rfl⟩ := List.mem_map.1 h; exact ⟨x, hx, by simp⟩)]
  exact List.eraseIdx_eq_take_drop_succ ..
theorem cancelP_none {k : κ} {w : List (κ × Int)} (h : k ∉ keysOf w) : cancelP k w = w := by
  unfold cancelP
  refine List.eraseP_of_forall_not fun a ha => ?_
  simp only [decide_eq_true_eq]
  rintro rfl
  exact h (List.mem_map_of_mem (f := (·.1)) ha)
theorem Rel.cancel {l w : List (κ × Int)} (h : Rel lt l w) (k : κ) : Rel lt (cancelP k l) (cancelP k w) := by
  refine ⟨?_, cancelP_srt h.srt, cancelP_nodup h.nd⟩
  rw [cancelP_filter h.ndl, cancelP_filter h.nd]
  exact h.perm.filter _
include o
theorem Rel.set {l w : List (κ × Int)} (h : Rel lt l w) (k : κ) (d : Int) : Rel lt (setP lt k d l) (cancelP k w ++ [(k, d)]) := by
  refine ⟨?_, setP_srt o h.srt h.ndl, ?_⟩
  · refine (setP_perm k d l).trans ?_
    exact ((h.cancel k).perm.cons _).trans (List.perm_append_singleton _ _).symm
  · unfold keysOf
    rw [List.map_append, List.nodup_append]
    refine ⟨cancelP_nodup h.nd, by simp, ?_⟩
    intro a ha b hb e
    simp at hb
    subst hb; subst e
    exact cancelP_not h.nd ha
omit o
theorem Rel.due {l w : List (κ × Int)} (h : Rel lt l w) (k : κ) : dueP k l = dueP k w := by
  cases hw : dueP k w with
  | none =>
    rw [dueP_none] at hw ⊢
    intro hm
    exact hw ((h.perm.map (·.1)).mem_iff.1 hm)
  | some d => rw [dueP_iff h.nd] at hw; rw [dueP_iff h.ndl]; exact h.perm.mem_iff.2 hw
theorem dueP_at {k : κ} {w : List (κ × Int)} : dueP k w = (w[atP k w]?).map (·.2) := by
  unfold dueP atP
  rw [List.find?_eq_getElem?_findIdx]
end
end Go.Proofs.Ytedkkcbdhbbegaa.TmQ
