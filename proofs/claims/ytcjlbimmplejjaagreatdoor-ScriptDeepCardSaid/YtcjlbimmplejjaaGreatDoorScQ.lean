/-
  What is wrong of a line is told whatever stands behind it; what stands between times and end. No program is named here.
-/
import Derived.Test.YtcjlbimmplejjaaGreatDoorScP
import Derived.Lib.CountLaws
namespace Go.Proofs.YtcjlbimmplejjaaGreatDoor.ScQ
open Go Go.Proofs.YtcjlbimmplejjaaGreatDoor.WdP Go.Proofs.YtcjlbimmplejjaaGreatDoor.ScP

/-! ### Where a line begins and ends -/
def cutW (line : Nat) : Tx → Nat → Nat → Nat → Nat × Nat
  | [], _, at', fr => (at', fr)
  | c :: r, n, at', fr => if n < line ∨ c ≠ 10 then (if c = 10 then cutW line r (n + 1) (at' + 1) (at' + 1) else cutW line r n (at' + 1) fr) else (at', fr)
theorem cutW_skip (line n : Nat) : ∀ (x y : Tx) (a f : Nat), (∀ c ∈ x, c ≠ 10) → cutW line (x ++ y) n a f = cutW line y n (a + x.length) f
  | [], y, a, f, _ => rfl
  | c :: x, y, a, f, h => by
    have hc := h c (by simp)
    simp only [List.cons_append, cutW]
    rw [if_pos (.inr hc), if_neg hc, cutW_skip line n x y _ f fun d hd => h d (by simp [hd]), List.length_cons, show a + 1 + x.length = a + (x.length + 1) from by omega]
theorem split10 (s : Tx) : (∀ a ∈ s, a ≠ 10) ∨ ∃ x r, s = x ++ 10 :: r ∧ ∀ a ∈ x, a ≠ 10 := by
  induction s with
  | nil => left; simp
  | cons b l ih =>
    by_cases hb : b = 10
    · right; exact ⟨[], l, by simp [hb], by simp⟩
    · rcases ih with h | ⟨x, r, rfl, h⟩
      · left
        intro a ha
        rcases List.mem_cons.1 ha with rfl | ha
        · exact hb
        · exact h a ha
      · right
        refine ⟨b :: x, r, rfl, ?_⟩
        intro a ha
        rcases List.mem_cons.1 ha with rfl | ha
        · exact hb
        · exact h a ha
theorem cut_law : ∀ (k : Nat) (t : Tx) (n a f : Nat), k < (lns t).length →
    cutW (n + k) t n a f = (a + (joinL ((lns t).take (k + 1))).length, if k = 0 then f else a + (joinL ((lns t).take k)).length + 1)
  | k, t, n, a, f, hk => by
    rcases split10 t with h | ⟨x, r, rfl, h⟩
    · rw [lns_none t h] at hk ⊢
      simp only [List.length_cons, List.length_nil] at hk
      obtain rfl : k = 0 := by omega
      have := cutW_skip (n + 0) n t [] a f h
      rw [List.append_nil] at this
      rw [this]; rfl
    · rw [lns_at, lns_none x h] at hk ⊢
      rw [cutW_skip _ n x _ a f h]
      cases k with
      | zero => simp [cutW, joinL]
      | succ k =>
        simp only [List.length_append, List.length_cons, List.length_nil] at hk
        have hr : k < (lns r).length := by omega
        have ih := cut_law k r (n + 1) (a + x.length + 1) (a + x.length + 1) hr
        simp only [cutW]
        rw [if_pos (.inl (by omega)), if_pos trivial, show n + (k + 1) = n + 1 + k from by omega, ih]
        obtain ⟨y, ys, hy⟩ := lns_ne r
        have h1 : (joinL ((x :: lns r).take (k + 1 + 1))).length = x.length + 1 + (joinL ((lns r).take (k + 1))).length := by
          rw [List.take_succ_cons, joinL_cons x (by rw [hy]; simp), List.length_append, List.length_cons]; omega
        rw [show ([x] ++ lns r) = x :: lns r from rfl, h1]
        refine Prod.ext (by simp; omega) ?_
        simp only [Nat.add_eq_zero_iff, Nat.one_ne_zero, and_false, if_false]
        cases k with
        | zero => simp [joinL]
        | succ k =>
          rw [if_neg (by omega), List.take_succ_cons, joinL_cons x (by rw [hy]; simp), List.length_append, List.length_cons]; omega
theorem joinL_append : ∀ (a b : List Tx), a ≠ [] → b ≠ [] → joinL (a ++ b) = joinL a ++ 10 :: joinL b
  | [], _, h, _ => absurd rfl h
  | [x], b, _, hb => joinL_cons x hb
  | x :: y :: a, b, _, hb => by
    rw [List.cons_append, joinL_cons x (by simp), joinL_append (y :: a) b (by simp) hb, joinL_cons x (by simp)]
    simp
theorem take_lines (t : Tx) (m : Nat) (hm : 0 < m) : t.take (joinL ((lns t).take m)).length = joinL ((lns t).take m) := by
  obtain ⟨y, ys, hy⟩ := lns_ne t
  by_cases h : (lns t).drop m = []
  · have h1 : (lns t).take m = lns t := by
      have := List.take_append_drop m (lns t); rw [h, List.append_nil] at this; exact this
    rw [h1, joinL_lns, List.take_length]
  · have h1 : t = joinL ((lns t).take m) ++ 10 :: joinL ((lns t).drop m) := by
      rw [← joinL_append _ _ (by rw [hy]; cases m with | zero => omega | succ m => simp) h, List.take_append_drop, joinL_lns]
    generalize joinL ((lns t).take m) = p at *
    rw [h1]; simp
theorem take_lines1 (t : Tx) (m : Nat) (hm : 0 < m) (hl : m < (lns t).length) : t.take ((joinL ((lns t).take m)).length + 1) = joinL ((lns t).take m) ++ [10] := by
  obtain ⟨y, ys, hy⟩ := lns_ne t
  have h1 : t = joinL ((lns t).take m) ++ 10 :: joinL ((lns t).drop m) := by
    rw [← joinL_append _ _ (by rw [hy]; cases m with | zero => omega | succ m => simp) (by intro e; have := congrArg List.length e; rw [List.length_drop] at this; simp at this; omega), List.take_append_drop, joinL_lns]
  generalize joinL ((lns t).take m) = p at *
  rw [h1, List.take_length_add_append]; rfl
theorem first_law {t behind : Tx} {line : Nat} (ht : t.length ≤ 3000) (hb : behind.length ≤ 3000) (h : goP (lns t) 0 st0 = .error line) :
    ∃ A F, cutW line t 1 0 0 = (A, F) ∧ A ≤ t.length ∧ F ≤ t.length ∧ parseP (t.take A) = ([], line, 8) ∧ parseP (t.take A ++ 10 :: behind) = ([], line, 8) ∧ (parseP (t.take F)).2.2 ≠ 8 := by
  obtain ⟨k, x, sk, rfl, hx, hk, hn⟩ := goP_error _ _ _ _ h
  rw [Nat.zero_add] at hn h ⊢
  have hkl : k < (lns t).length := (List.getElem?_eq_some_iff.1 hx).1
  have hstop := goP_stop hx hk (by rw [Nat.zero_add]; exact hn)
  rw [Nat.zero_add] at hstop
  have hcut := cut_law k t 1 0 0 hkl
  rw [show 1 + k = k + 1 from by omega] at hcut
  have hmem : ∀ m, ∀ z ∈ (lns t).take m, ∀ a ∈ z, a ≠ 10 := fun m z hz => lns_mem t z (List.mem_of_mem_take hz)
  have hnil : ∀ m, 0 < m → (lns t).take m ≠ [] := fun m hm => by
    obtain ⟨y, ys, hy⟩ := lns_ne t
    rw [hy]; cases m with | zero => omega | succ m => simp
  have hA : t.take (joinL ((lns t).take (k + 1))).length = joinL ((lns t).take (k + 1)) := take_lines t _ (by omega)
  have hAl : (joinL ((lns t).take (k + 1))).length ≤ t.length := by
    have := congrArg List.length hA
    rw [List.length_take] at this; omega
  have hL := lns_joinL (hnil (k + 1) (by omega)) (hmem (k + 1))
  refine ⟨_, _, hcut, by simpa using hAl, ?_, ?_, ?_, ?_⟩
  · split
    · omega
    · have := congrArg List.length (take_lines1 t k (by omega) hkl)
      rw [List.length_take, List.length_append] at this
      simp at this; omega
  · rw [Nat.zero_add, hA]
    unfold parseP
    rw [if_neg (by omega), hL, hstop]; rfl
  · rw [Nat.zero_add, hA]
    unfold parseP
    rw [if_neg (by simp; omega), lns_at, hL, goP_append, hstop]; rfl
  · have hf : (lns (t.take (if k = 0 then 0 else 0 + (joinL ((lns t).take k)).length + 1))) = (lns t).take k ++ [[]] := by
      split
      · rename_i h0; subst h0; rfl
      · rename_i h0
        rw [Nat.zero_add, take_lines1 t k (by omega) hkl, lns_at, lns_joinL (hnil k (by omega)) (hmem k)]; rfl
    intro he
    have hlen : (t.take (if k = 0 then 0 else 0 + (joinL ((lns t).take k)).length + 1)).length ≤ 65536 := by rw [List.length_take]; omega
    obtain ⟨n, hn⟩ := (parseP_form hlen).1 he
    rw [hf, goP_append, hk] at hn
    simp [goP, lineP_nil] at hn

/-! ### Times -/
def isT (s : Tx) : Bool := wd s == wTimes
def tcount (l : List Tx) : Nat := (l.filter isT).length
theorem tcount_cons (s : Tx) (l : List Tx) : tcount (s :: l) = (if isT s then 1 else 0) + tcount l := by
  unfold tcount
  rw [List.filter_cons]
  split
  · simp; omega
  · omega
/-- What a line does to the blocks. -/
theorem lineP_cases {st : List Blk} {s : Tx} {n : Nat} {st' : List Blk} (h : lineP st s n = some st') :
    (wd s = [] ∧ st' = st) ∨ (wd s = wTimes ∧ ∃ k, numM 1000 (wd (rs s)) = some k ∧ bl (rs (rs s)) = [] ∧ st.length ≤ 8 ∧ st' = ⟨[], 0, k, n⟩ :: st) ∨
    (wd s = wEnd ∧ bl (rs s) = [] ∧ ∃ b c q, st = b :: c :: q ∧ st' = addB c b.l b.many b.times :: q) ∨
    (wd s ≠ [] ∧ wd s ≠ wTimes ∧ wd s ≠ wEnd ∧ ∃ x b q, actP (wd s) (rs s) = some x ∧ st = b :: q ∧ st' = addB b [x] 1 1 :: q) := by
  unfold lineP at h
  split at h
  · cases h; exact .inl ⟨by assumption, rfl⟩
  · split at h
    · split at h
      · cases h
      · rename_i k hk
        split at h
        · rename_i h1; cases h; exact .inr (.inl ⟨by assumption, k, hk, h1.1, h1.2, rfl⟩)
        · cases h
    · split at h
      · split at h
        · rename_i b c q
          split at h
          · cases h; exact .inr (.inr (.inl ⟨by assumption, by assumption, b, c, q, rfl, rfl⟩))
          · cases h
        · cases h
      · split at h
        · cases h
        · rename_i x hx
          split at h
          · rename_i b q
            cases h; exact .inr (.inr (.inr ⟨by assumption, by assumption, by assumption, x, b, q, hx, rfl, rfl⟩))
          · cases h
theorem lineP_depth {st : List Blk} {s : Tx} {n : Nat} {st' : List Blk} (h : lineP st s n = some st') : st'.length ≤ st.length + (if isT s then 1 else 0) := by
  rcases lineP_cases h with ⟨-, rfl⟩ | ⟨hw, k, -, -, -, rfl⟩ | ⟨-, -, b, c, q, rfl, rfl⟩ | ⟨-, -, -, x, b, q, -, rfl, rfl⟩
  · omega
  · have : isT s = true := by unfold isT; rw [hw]; rfl
    rw [if_pos this]; simp
  · simp; omega
  · simp
theorem goP_depth : ∀ (l : List Tx) (i : Nat) (st st' : List Blk), goP l i st = .ok st' → st'.length ≤ st.length + tcount l
  | [], _, _, _, h => by simp [goP] at h; subst h; omega
  | s :: l, i, st, st', h => by
    simp only [goP] at h
    split at h
    · cases h
    · rename_i s1 h1
      have := goP_depth l _ _ _ h
      have := lineP_depth h1
      rw [tcount_cons]; omega
theorem addB_times (b : Blk) (l : List Ac) (m t : Nat) : (addB b l m t).times = b.times ∧ (addB b l m t).line = b.line := by
  unfold addB
  split
  · exact ⟨rfl, rfl⟩
  · split <;> exact ⟨rfl, rfl⟩
theorem addB_at (b : Blk) (l : List Ac) (m t x y : Nat) : addB { b with times := x, line := y } l m t = { addB b l m t with times := x, line := y } := by
  unfold addB
  split
  · rfl
  · simp only
    split <;> rfl
/-- The blocks, where all stands within times. -/
def emb (k : Nat) : List Blk → List Blk
  | [] => []
  | [b] => [{ b with times := k, line := 1 }, ⟨[], 0, 0, 0⟩]
  | b :: c :: q => { b with line := b.line + 1 } :: emb k (c :: q)
theorem emb_len (k : Nat) : ∀ (st : List Blk), st ≠ [] → (emb k st).length = st.length + 1
  | [], h => absurd rfl h
  | [b], _ => rfl
  | b :: c :: q, _ => by rw [emb, List.length_cons, emb_len k (c :: q) (by simp)]; simp
theorem emb_cons (k : Nat) (b : Blk) {st : List Blk} (h : st ≠ []) : emb k (b :: st) = { b with line := b.line + 1 } :: emb k st := by
  cases st with
  | nil => exact absurd rfl h
  | cons c q => rfl
theorem emb_head (k : Nat) (b : Blk) (q : List Blk) : ∃ x y r, emb k (b :: q) = { b with times := x, line := y } :: r ∧ r ≠ [] ∧
    ∀ l m t, emb k (addB b l m t :: q) = { addB b l m t with times := x, line := y } :: r := by
  cases q with
  | nil => exact ⟨k, 1, [⟨[], 0, 0, 0⟩], rfl, by simp, fun l m t => rfl⟩
  | cons c q =>
    refine ⟨b.times, b.line + 1, emb k (c :: q), rfl, ?_, fun l m t => ?_⟩
    · intro e
      have := congrArg List.length e
      rw [emb_len k _ (by simp)] at this; simp at this
    · rw [emb, (addB_times b l m t).2]
      have := (addB_times b l m t).1
      generalize addB b l m t = d at *
      obtain ⟨dl, dm, dt, dn⟩ := d
      simp only at this
      rw [this]
theorem emb_line {k : Nat} {st : List Blk} {s : Tx} {n : Nat} {st' : List Blk} (h : lineP st s n = some st') (hne : st ≠ []) (hd : st.length + (if isT s then 1 else 0) ≤ 8) : lineP (emb k st) s (n + 1) = some (emb k st') := by
  rcases lineP_cases h with ⟨hw, rfl⟩ | ⟨hw, t, ht, hb, -, rfl⟩ | ⟨hw, hb, b, c, q, rfl, rfl⟩ | ⟨h1, h2, h3, x, b, q, hx, rfl, rfl⟩
  · unfold lineP; rw [if_pos hw]
  · have hT : isT s = true := by unfold isT; rw [hw]; rfl
    rw [if_pos hT] at hd
    unfold lineP
    rw [hw, if_neg (by decide), if_pos rfl, ht]
    simp only
    rw [if_pos ⟨hb, by rw [emb_len k st hne]; omega⟩, emb_cons k _ hne]
  · obtain ⟨x, y, r, he, hr, ha⟩ := emb_head k c q
    unfold lineP
    rw [hw, if_neg (by decide), if_neg (by decide), if_pos rfl, emb_cons k b (by simp), he]
    simp only
    rw [if_pos hb, ha, addB_at]
  · obtain ⟨u, y, r, he, hr, ha⟩ := emb_head k b q
    unfold lineP
    rw [if_neg h1, if_neg h2, if_neg h3, hx, he]
    simp only
    rw [ha, addB_at]
theorem emb_none {k : Nat} {st : List Blk} {s : Tx} {n : Nat} (h : lineP st s n = none) (hne : st ≠ []) (hd : st.length + (if isT s then 1 else 0) ≤ 8) : wd s = wEnd ∨ lineP (emb k st) s (n + 1) = none := by
  by_cases he : wd s = wEnd
  · exact .inl he
  · right
    unfold lineP at h ⊢
    split at h
    · cases h
    · rename_i h1
      rw [if_neg h1]
      split at h
      · rename_i h2
        rw [if_pos h2]
        have hT : isT s = true := by unfold isT; rw [h2]; rfl
        rw [if_pos hT] at hd
        split at h
        · rfl
        · rename_i t h3
          split at h
          · cases h
          · rename_i h4
            rw [if_neg fun e => h4 ⟨e.1, by have := e.2; rw [emb_len k st hne] at this; omega⟩]
      · rename_i h2
        rw [if_neg h2, if_neg he]
        split at h
        · rfl
        · split at h
          · cases h
          · exact absurd rfl hne
theorem emb_go (k : Nat) : ∀ (l : List Tx) (i : Nat) (st : List Blk), st ≠ [] → st.length + tcount l ≤ 8 →
    (∀ st', goP l i st = .ok st' → goP l (i + 1) (emb k st) = .ok (emb k st')) ∧
    (∀ n, goP l i st = .error n → (∃ j x, n = i + j + 1 ∧ l[j]? = some x ∧ wd x = wEnd) ∨ goP l (i + 1) (emb k st) = .error (n + 1))
  | [], i, st, _, _ => ⟨fun st' h => by simp [goP] at h; subst h; rfl, fun n h => by simp [goP] at h⟩
  | s :: l, i, st, hne, hd => by
    rw [tcount_cons] at hd
    cases hl : lineP st s (i + 1) with
    | none =>
      refine ⟨fun st' h => by simp [goP, hl] at h, fun n h => ?_⟩
      simp only [goP, hl] at h
      cases h
      rcases emb_none (k := k) hl hne (by omega) with h1 | h1
      · exact .inl ⟨0, s, by omega, rfl, h1⟩
      · exact .inr (by simp only [goP, h1])
    | some s1 =>
      have h1 := emb_line (k := k) hl hne (by omega)
      have hdp := lineP_depth hl
      obtain ⟨ihA, ihB⟩ := emb_go k l (i + 1) s1 (lineP_ne hl hne) (by omega)
      refine ⟨fun st' h => ?_, fun n h => ?_⟩
      · simp only [goP, hl] at h
        simp only [goP, h1]
        exact ihA st' h
      · simp only [goP, hl] at h
        rcases ihB n h with ⟨j, x, rfl, hx, hw⟩ | h2
        · exact .inl ⟨j + 1, x, by omega, by simpa using hx, hw⟩
        · exact .inr (by simp only [goP, h1]; exact h2)
end Go.Proofs.YtcjlbimmplejjaaGreatDoor.ScQ
