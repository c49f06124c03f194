import Derived.Test.YtcjlbimmplejjaaDoorScNt
import Derived.Lib.CountLaws
namespace Go.Proofs.YtcjlbimmplejjaaDoor.ScTc
open Go Go.RowKit Go.Proofs Go.Proofs.YtcjlbimmplejjaaDoor.WdP Go.Proofs.YtcjlbimmplejjaaDoor.WdT Go.Proofs.YtcjlbimmplejjaaDoor.ScP Go.Proofs.YtcjlbimmplejjaaDoor.ScQ Go.Proofs.YtcjlbimmplejjaaDoor.ScT Go.Proofs.YtcjlbimmplejjaaDoor.ScNt
open Go.Proofs.YtcjlbimmplejjaaDoor.PathL (split_at)

theorem index_cons (b : UInt8) (l sub : Tx) : Lib.index (b :: l) sub = if sub.isPrefixOf (b :: l) then 0 else if Lib.index l sub == -1 then -1 else Lib.index l sub + 1 := rfl
theorem idx_cases (s sub : Tx) : Lib.index s sub = -1 ∨ ∃ i : Nat, Lib.index s sub = i ∧ i + sub.length ≤ s.length := by
  rcases Lib.index_spec s sub with ⟨h, _⟩ | ⟨i, h, -, -⟩
  · exact .inl h
  · refine .inr ⟨i, h, ?_⟩
    have := Lib.index_room s sub (by omega)
    omega
/-- One byte ahead takes no instance away. -/
theorem count_cons {sub : Tx} (hs : sub ≠ []) : ∀ (n : Nat) (s : Tx) (b : UInt8), s.length < n → Lib.count s sub ≤ Lib.count (b :: s) sub
  | 0, s, b, h => by omega
  | n + 1, s, b, h => by
    have drops : ∀ (k : Nat) (u : Tx), u.length < n + 1 → Lib.count (u.drop k) sub ≤ Lib.count u sub := by
      intro k
      induction k with
      | zero => intro u _; simp
      | succ k ih =>
        intro u hu
        cases u with
        | nil => simp
        | cons c r =>
          simp only [List.length_cons] at hu
          exact Nat.le_trans (ih r (by omega)) (count_cons hs n r c (by omega))
    have hl : 0 < sub.length := by cases sub with | nil => exact absurd rfl hs | cons _ _ => simp
    rcases idx_cases s sub with h1 | ⟨j, h1, hj⟩
    · rw [Lib.count_miss h1]; exact Nat.zero_le _
    · by_cases hp : sub.isPrefixOf (b :: s) = true
      · have h2 : Lib.index (b :: s) sub = (0 : Nat) := by rw [index_cons, if_pos hp]; rfl
        rw [Lib.count_hit hs h1, Lib.count_hit hs h2]
        have h3 : (b :: s).drop (0 + sub.length) = s.drop (sub.length - 1) := by
          rw [show 0 + sub.length = sub.length - 1 + 1 from by omega, List.drop_succ_cons]
        have h4 : s.drop (j + sub.length) = (s.drop (sub.length - 1)).drop (j + 1) := by
          rw [List.drop_drop]; congr 1; omega
        rw [h3, h4]
        have := drops (j + 1) (s.drop (sub.length - 1)) (by rw [List.length_drop]; omega)
        omega
      · have h2 : Lib.index (b :: s) sub = (j + 1 : Nat) := by
          rw [index_cons, if_neg hp, h1]
          have : ((j : Int) == -1) = false := by simp
          rw [this]
          simp
        rw [Lib.count_hit hs h1, Lib.count_hit hs h2, show j + 1 + sub.length = j + sub.length + 1 from by omega, List.drop_succ_cons]
        exact Nat.le_refl _
theorem count_drop {sub : Tx} (hs : sub ≠ []) (x y : Tx) : Lib.count y sub ≤ Lib.count (x ++ y) sub := by
  induction x with
  | nil => exact Nat.le_refl _
  | cons b x ih => exact Nat.le_trans ih (count_cons hs _ _ _ (Nat.lt_succ_self _))
theorem count_front {sub : Tx} (hs : sub ≠ []) (y : Tx) : Lib.count (sub ++ y) sub = 1 + Lib.count y sub := by
  have h : Lib.index (sub ++ y) sub = (0 : Nat) := by
    cases sub with
    | nil => exact absurd rfl hs
    | cons c r =>
      rw [List.cons_append, index_cons, if_pos]
      · rfl
      · simp
  rw [Lib.count_hit hs h]
  simp
theorem wd_in {s w : Tx} (h : wd s = w) (hne : w ≠ []) : ∃ z y, s = z ++ (w ++ y) := by
  unfold wd bl at h
  by_cases hb : (s.dropWhile (· == 32)).head? = some 35
  · rw [if_pos hb] at h
    exact absurd h.symm hne
  · rw [if_neg hb] at h
    refine ⟨s.takeWhile (· == 32), (s.dropWhile (· == 32)).dropWhile (· != 32), ?_⟩
    rw [← h, List.takeWhile_append_dropWhile, List.takeWhile_append_dropWhile]
theorem tcount_le : ∀ (n : Nat) (t : Tx), t.length < n → tcount (lns t) ≤ Lib.count t wTimes
  | 0, t, h => by omega
  | n + 1, t, h => by
    have hW : wTimes ≠ [] := by decide
    rcases split_at 10 t with hn | ⟨x, r, rfl, hx⟩
    · rw [lns_none t hn, tcount_cons]
      by_cases hT : isT t = true
      · obtain ⟨z, y, hz⟩ := wd_in (by simpa [isT] using hT : wd t = wTimes) hW
        have h1 := count_drop hW z (wTimes ++ y)
        rw [← hz, count_front hW] at h1
        rw [if_pos hT]
        show 1 + 0 ≤ _
        omega
      · rw [if_neg hT]; exact Nat.zero_le _
    · rw [lns_at, lns_none x hx]
      show tcount (x :: lns r) ≤ _
      rw [tcount_cons]
      have ih := tcount_le n r (by simp at h; omega)
      by_cases hT : isT x = true
      · obtain ⟨z, y, hz⟩ := wd_in (by simpa [isT] using hT : wd x = wTimes) hW
        have h1 := count_drop hW z (wTimes ++ (y ++ 10 :: r))
        rw [count_front hW] at h1
        have h2 := count_drop hW (y ++ [10]) r
        rw [List.append_assoc] at h2
        rw [if_pos hT, hz, show z ++ (wTimes ++ y) ++ 10 :: r = z ++ (wTimes ++ (y ++ 10 :: r)) from by simp]
        simp only [List.cons_append, List.nil_append] at h2
        omega
      · rw [if_neg hT]
        have h2 := count_drop hW (x ++ [10]) r
        rw [List.append_assoc] at h2
        simp only [List.cons_append, List.nil_append] at h2
        omega
theorem contains_wd {s w : Tx} (h : wd s = w) (hne : w ≠ []) : Lib.contains s w = true := by
  obtain ⟨z, y, rfl⟩ := wd_in h hne
  refine contains_occ (i := z.length) (by simp) ?_
  unfold Lib.occAt
  rw [List.drop_left]
  simp
theorem parse_len {t : Tx} {l : List Ac} {i e : Nat} (h : parseP t = (l, i, e)) : l.length ≤ 4096 := by
  unfold parseP at h
  split at h
  · simp at h; rw [h.1]; simp
  · cases hg : goP (lns t) 0 st0 with
    | error n =>
      rw [hg] at h
      simp only [finP, Prod.mk.injEq] at h
      rw [← h.1]; simp
    | ok st =>
      rw [hg] at h
      have hs := sinv_go _ _ _ _ sinv0 hg
      match st, h, hs with
      | [], h, hs => simp [finP] at h; rw [h.1]; simp
      | [b], h, hs =>
        by_cases hb : 4096 < b.many
        · simp [finP, hb] at h; rw [h.1]; simp
        · simp [finP, hb] at h
          have := (hs.ok b (by simp)).len (by omega)
          rw [← h.1]; omega
      | b :: c :: q, h, hs => simp [finP] at h; rw [h.1]; simp
end Go.Proofs.YtcjlbimmplejjaaDoor.ScTc
