import Derived.Test.YtldobldhmodjlaaPipeRef
namespace Go.Proofs.Ytldobldhmodjlaa.PipeRel
open Go Go.RowKit Go.Proofs Go.Proofs.Ytldobldhmodjlaa.Sep Go.Proofs.Ytldobldhmodjlaa.Reg Go.Proofs.Ytldobldhmodjlaa.Buf Go.Proofs.Ytldobldhmodjlaa.Pipe Go.Proofs.Ytldobldhmodjlaa.Frame Go.Proofs.Ytldobldhmodjlaa.PipeLaw Go.Proofs.Ytldobldhmodjlaa.PipeRef

/-- A pipe and the plain one stand alike. -/
structure Rel (st : PSt) (r : RSt) : Prop where
  inn : r.inn = st.inn
  out : r.out = st.out
  cut : r.cut = st.cut
  fin : r.fin = st.finished
  over : r.over = st.over
  brk : r.brk = st.broken
  left : st.broken = false → r.left = if st.bounded then st.left else -1
  l0 : st.bounded = true → 0 ≤ st.left ∧ st.left ≤ 1099511627776
  l1 : st.bounded = false → st.left = -(st.out.length : Int)
  lb : -1 ≤ r.left ∧ r.left ≤ 1099511627776
  room : st.inn.length ≤ 65536
  cut0 : 0 ≤ st.cut ∧ st.cut ≤ 65536

theorem rel_start : Rel ⟨false, false, false, false, [], [], 0, 0⟩ ⟨[], [], 0, -1, false, false, false⟩ :=
  ⟨rfl, rfl, rfl, rfl, rfl, rfl, fun _ => rfl, fun h => (by cases h), fun _ => rfl, by simp, by simp, by simp⟩
theorem rel_ready {st : PSt} {r : RSt} (h : Rel st r) : r.ready = st.ready := by
  unfold RSt.ready PSt.ready PSt.closed
  rw [h.inn, h.fin, h.over, h.brk]
  cases st.over <;> cases st.broken <;> simp
theorem rel_arrive {st : PSt} {r : RSt} (h : Rel st r) (s : List UInt8) : (r.arrive s).1 = (st.arrive 65536 s).1 ∧ Rel (st.arrive 65536 s).2 (r.arrive s).2 := by
  have h' := h
  obtain ⟨bounded, finished, over, broken, inn, out, cut, sl⟩ := st
  obtain ⟨rinn, rout, rcut, rl, rfin, rover, rbrk⟩ := r
  obtain ⟨e1, e2, e3, e4, e5, e6, left, l0, l1, lb, room, cut0⟩ := h
  simp only at e1 e2 e3 e4 e5 e6 left l0 l1 lb room cut0
  subst e1 e2 e3 e4 e5 e6
  unfold RSt.arrive PSt.arrive PSt.closed
  simp only
  by_cases hc : (rover || rbrk || rfin) = true
  · have hc2 : (rfin || rover || rbrk) = true := by revert hc; cases rover <;> cases rbrk <;> cases rfin <;> simp
    rw [if_pos hc, if_pos hc2]; exact ⟨rfl, h'⟩
  · have hc2 : ¬ (rfin || rover || rbrk) = true := by revert hc; cases rover <;> cases rbrk <;> cases rfin <;> simp
    rw [if_neg hc, if_neg hc2]
    exact ⟨rfl, rfl, rfl, rfl, rfl, rfl, rfl, left, l0, l1, lb, by simp; omega, cut0⟩
theorem rel_peek {st : PSt} {r : RSt} (h : Rel st r) : st.inn.take r.cutN = peekN st.most st.inn ∧ st.inn.drop r.cutN = st.inn.drop st.most.toNat := by
  have hr := h.room
  have hc := h.cut0
  unfold RSt.cutN PSt.most peekN
  rw [h.inn, h.cut]
  by_cases h0 : st.cut = 0
  · rw [if_neg (by omega), if_pos h0]
    exact ⟨by rw [List.take_of_length_le (Nat.le_refl _), List.take_of_length_le (by simpa using hr)], by rw [List.drop_of_length_le (Nat.le_refl _), List.drop_of_length_le (by simpa using hr)]⟩
  · rw [if_neg h0]
    by_cases h1 : 0 < st.cut ∧ st.cut < st.inn.length
    · rw [if_pos h1]; exact ⟨rfl, rfl⟩
    · rw [if_neg h1]
      have : st.inn.length ≤ st.cut.toNat := by omega
      exact ⟨by rw [List.take_of_length_le (Nat.le_refl _), List.take_of_length_le this], by rw [List.drop_of_length_le (Nat.le_refl _), List.drop_of_length_le this]⟩
theorem peek_pos {st : PSt} {r : RSt} (h : Rel st r) : (peekN st.most st.inn).isEmpty = decide (st.inn = []) := by
  have hc := h.cut0
  unfold peekN PSt.most
  have hm : 0 < (if st.cut = 0 then (65536 : Int) else st.cut).toNat := by split <;> omega
  cases hi : st.inn with
  | nil => simp
  | cons x xs =>
    generalize (if st.cut = 0 then (65536 : Int) else st.cut).toNat = n at hm
    cases n with
    | zero => omega
    | succ n => simp
theorem rel_reading {st : PSt} {r : RSt} (h : Rel st r) : r.reading.1 = st.reading.1 ∧ r.reading.2.1 = st.reading.2.1 ∧ Rel st.reading.2.2 r.reading.2.2 := by
  obtain ⟨p1, p2⟩ := rel_peek h
  have p3 := peek_pos h
  unfold RSt.reading PSt.reading
  rw [rel_ready h, h.inn]
  by_cases hr : st.ready = true
  · rw [if_pos hr, if_pos hr, p3]
    by_cases hi : st.inn = []
    · rw [if_pos hi]
      refine ⟨by simp [hi, peekN], by simp [hi], ?_⟩
      exact ⟨by rw [h.inn]; simp [hi], h.out, h.cut, h.fin, h.over, h.brk, h.left, h.l0, h.l1, h.lb, by simp [hi], h.cut0⟩
    · rw [if_neg hi]
      refine ⟨p1, by simp [hi], ?_⟩
      exact ⟨p2, h.out, h.cut, h.fin, h.over, h.brk, h.left, h.l0, h.l1, h.lb, by have := h.room; simp; omega, h.cut0⟩
  · rw [if_neg hr, if_neg hr]
    exact ⟨rfl, rfl, h⟩
theorem rel_writing {st : PSt} {r : RSt} (h : Rel st r) (s : List UInt8) : (r.writing s).1 = (st.writing s).1 ∧ (r.writing s).2.1 = (st.writing s).2.1 ∧ Rel (st.writing s).2.2 (r.writing s).2.2 := by
  have h' := h
  obtain ⟨bounded, finished, over, broken, inn, out, cut, sl⟩ := st
  obtain ⟨rinn, rout, rcut, rl, rfin, rover, rbrk⟩ := r
  obtain ⟨e1, e2, e3, e4, e5, e6, left, l0, l1, lb, room, cut0⟩ := h
  simp only at e1 e2 e3 e4 e5 e6 left l0 l1 lb room cut0
  subst e1 e2 e3 e4 e5 e6
  unfold RSt.writing PSt.writing PSt.closed PSt.fails
  simp only
  by_cases hc : (rover || rbrk) = true
  · rw [if_pos hc, if_pos hc]; exact ⟨rfl, rfl, h'⟩
  · rw [if_neg hc, if_neg hc]
    have hb : rbrk = false := by revert hc; cases rover <;> cases rbrk <;> simp
    have hl := left hb
    cases bounded
    · have h1 := l1 rfl
      simp only [Bool.false_eq_true, if_false] at hl
      subst hl
      rw [if_neg (by omega), if_neg (by omega), if_neg (by simp)]
      exact ⟨rfl, rfl, rfl, rfl, rfl, rfl, rfl, rfl, fun _ => rfl, fun hh => (by cases hh), fun _ => by simp [h1]; omega, by simp, room, cut0⟩
    · have h0 := l0 rfl
      simp only [if_true] at hl
      subst hl
      by_cases hlt : rl < s.length
      · rw [if_pos ⟨h0.1, hlt⟩, if_pos (by simpa using hlt)]
        exact ⟨rfl, rfl, (List.drop_of_length_le room).symm, rfl, rfl, rfl, rfl, rfl, fun hh => (by cases hh), fun _ => by simp, fun hh => (by cases hh), ⟨by simp; omega, by simp; omega⟩, by simp; omega, cut0⟩
      · rw [if_neg (fun hh => hlt hh.2), if_pos h0.1, if_neg (by simpa using hlt)]
        exact ⟨rfl, rfl, rfl, rfl, rfl, rfl, rfl, rfl, fun _ => rfl, fun _ => ⟨by simp; omega, by simp; omega⟩, fun hh => (by cases hh), ⟨by simp; omega, by simp; omega⟩, room, cut0⟩
theorem rel_cutting {st : PSt} {r : RSt} (h : Rel st r) (n : Int) (h0 : 0 ≤ n) (h1 : n ≤ 65536) : Rel { st with cut := n } { r with cut := n } :=
  ⟨h.inn, h.out, rfl, h.fin, h.over, h.brk, h.left, h.l0, h.l1, h.lb, h.room, ⟨h0, h1⟩⟩
theorem rel_breaking {st : PSt} {r : RSt} (h : Rel st r) (n : Int) (h0 : 0 ≤ n) (h1 : n ≤ 1099511627776) : Rel { st with bounded := true, left := n } { r with left := n } :=
  ⟨h.inn, h.out, h.cut, h.fin, h.over, h.brk, fun _ => rfl, fun _ => ⟨h0, h1⟩, fun hh => (by cases hh), ⟨by simp; omega, h1⟩, h.room, h.cut0⟩
theorem rel_finish {st : PSt} {r : RSt} (h : Rel st r) : Rel { st with finished := true } { r with fin := true } :=
  ⟨h.inn, h.out, h.cut, rfl, h.over, h.brk, h.left, h.l0, h.l1, h.lb, h.room, h.cut0⟩
theorem rel_ending {st : PSt} {r : RSt} (h : Rel st r) : Rel st.ending { r with over := true, inn := [] } :=
  ⟨(List.drop_of_length_le h.room).symm, h.out, h.cut, h.fin, rfl, h.brk, h.left, h.l0, h.l1, h.lb, by have := h.room; simp [PSt.ending]; omega, h.cut0⟩
theorem out_arrive (st : PSt) (s : List UInt8) : (st.arrive 65536 s).2.out = st.out := by unfold PSt.arrive; split <;> rfl
theorem out_reading (st : PSt) : st.reading.2.2.out = st.out := by unfold PSt.reading; split <;> rfl
theorem out_writing (st : PSt) (s : List UInt8) : (st.writing s).2.2.out.length ≤ st.out.length + s.length := by
  unfold PSt.writing
  split
  · simp
  · split
    · simp; omega
    · simp
end Go.Proofs.Ytldobldhmodjlaa.PipeRel
