import Derived.Test.YtcjlbimmplejjaaGreatDoorPathQ
import Derived.Lib.Split
import Derived.Lib.IndexMore
namespace Go.Proofs.YtcjlbimmplejjaaGreatDoor.PathL
open Go Go.Proofs.YtcjlbimmplejjaaGreatDoor.PathP

theorem index_none (c : UInt8) : ∀ s : List UInt8, (∀ a ∈ s, a ≠ c) → Lib.index s [c] = -1
  | [], _ => rfl
  | b :: l, h => by
    have h1 : (c == b) = false := by simpa using fun e => h b (by simp) e.symm
    have h2 := index_none c l fun a ha => h a (by simp [ha])
    simp [Lib.index, List.isPrefixOf, h1, h2]
theorem index_at (c : UInt8) : ∀ (x r : List UInt8), (∀ a ∈ x, a ≠ c) → Lib.index (x ++ c :: r) [c] = x.length
  | [], r, _ => by simp [Lib.index, List.isPrefixOf]
  | b :: l, r, h => by
    have h1 : (c == b) = false := by simpa using fun e => h b (by simp) e.symm
    have h2 := index_at c l r fun a ha => h a (by simp [ha])
    have h3 : ((l.length : Int) == -1) = false := by simp
    show Lib.index (b :: (l ++ c :: r)) [c] = _
    simp [Lib.index, List.isPrefixOf, h1, h2, h3]
/-- Ahead of the first c, and behind it. -/
theorem split_at (c : UInt8) (s : List UInt8) : (∀ a ∈ s, a ≠ c) ∨ ∃ x r, s = x ++ c :: r ∧ ∀ a ∈ x, a ≠ c := by
  induction s with
  | nil => left; simp
  | cons b l ih =>
    by_cases hb : b = c
    · right; exact ⟨[], l, by simp [hb], by simp⟩
    · rcases ih with h | ⟨x, r, rfl, h⟩
      · left
        intro a ha
        rcases List.mem_cons.1 ha with rfl | ha
        · exact hb
        · exact h a ha
      · right
        refine ⟨b :: x, r, rfl, ?_⟩
        intro a ha
        rcases List.mem_cons.1 ha with rfl | ha
        · exact hb
        · exact h a ha
theorem parts_none (s : List UInt8) (h : ∀ a ∈ s, a ≠ 47) : parts s = [s] := by
  have := PathQ.parts_one s h
  exact this
theorem parts_at (x r : List UInt8) (h : ∀ a ∈ x, a ≠ 47) : parts (x ++ 47 :: r) = x :: parts r := by
  rw [PathQ.parts_add, parts_none x h]; rfl
theorem count_eq : ∀ (n : Nat) (s : List UInt8), s.length < n → Lib.countFrom [47] n s + 1 = (parts s).length
  | 0, s, h => by omega
  | n + 1, s, h => by
    rcases split_at 47 s with hn | ⟨x, r, rfl, hx⟩
    · simp [Lib.countFrom, index_none 47 s hn, parts_none s hn]
    · have h3 : ((x.length : Int) == -1) = false := by simp
      have hd : (x ++ 47 :: r).drop (x.length + 1) = r := by simp
      have ih := count_eq n r (by simp at h; omega)
      simp only [Lib.countFrom, index_at 47 x r hx, h3, parts_at x r hx, List.length_cons, Int.toNat_natCast, List.length_nil, Nat.zero_add, hd]
      simp
      omega
theorem splitK_eq : ∀ (k : Nat) (s : List UInt8), (parts s).length = k + 1 → Lib.splitK [47] 0 k s = parts s
  | 0, s, h => by
    rcases split_at 47 s with hn | ⟨x, r, rfl, hx⟩
    · rw [parts_none s hn]; rfl
    · rw [parts_at x r hx] at h
      obtain ⟨y, ys, hy⟩ := parts_ne r
      rw [hy] at h; simp at h
  | k + 1, s, h => by
    rcases split_at 47 s with hn | ⟨x, r, rfl, hx⟩
    · rw [parts_none s hn] at h; simp at h
    · rw [parts_at x r hx] at h ⊢
      have h3 : ((x.length : Int) == -1) = false := by simp
      have hd : (x ++ 47 :: r).drop (x.length + 1) = r := by simp
      have ht : (x ++ 47 :: r).take x.length = x := by simp
      have ih := splitK_eq k r (by simpa using h)
      simp only [Lib.splitK, index_at 47 x r hx, h3, Int.toNat_natCast, List.length_cons, List.length_nil, Nat.zero_add, hd, Nat.add_zero, ht, ih]
      simp
theorem split_eq (s : List UInt8) : Lib.split s [47] = parts s := by
  unfold Lib.split
  have h := count_eq (s.length + 1) s (by omega)
  exact splitK_eq _ s (by unfold Lib.count; omega)
theorem cut_eq (s : List UInt8) : (Lib.cut s [63]).1 = (cutQ s).1 ∧ (Lib.cut s [63]).2.1 = (cutQ s).2 := by
  rcases split_at 63 s with hn | ⟨x, r, rfl, hx⟩
  · rw [PathQ.takeWhile_all s hn]
    simp [Lib.cut, index_none 63 s hn]
  · have h1 : cutQ (x ++ 63 :: r) = (x, r) := by
      have e1 : (x ++ 63 :: r).takeWhile (· != 63) = x := by
        induction x with
        | nil => simp
        | cons b l ih =>
          have hb : b ≠ 63 := hx b (by simp)
          simp [hb]
          exact ih fun a ha => hx a (by simp [ha])
      have e2 : (x ++ 63 :: r).dropWhile (· != 63) = 63 :: r := by
        have := List.takeWhile_append_dropWhile (p := (· != 63)) (l := x ++ 63 :: r)
        rw [e1] at this
        exact List.append_cancel_left this
      unfold cutQ
      rw [e1, e2]; rfl
    rw [h1]
    have h2 : (0 : Int) ≤ (x.length : Int) := by omega
    simp [Lib.cut, index_at 63 x r hx, h2]

end Go.Proofs.YtcjlbimmplejjaaGreatDoor.PathL
