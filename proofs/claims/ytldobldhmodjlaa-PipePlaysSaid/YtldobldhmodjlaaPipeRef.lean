import Derived.Test.YtldobldhmodjlaaPipeLaw
namespace Go.Proofs.Ytldobldhmodjlaa.PipeRef
open Go Go.RowKit Go.Proofs Go.Proofs.Ytldobldhmodjlaa.Sep Go.Proofs.Ytldobldhmodjlaa.Reg Go.Proofs.Ytldobldhmodjlaa.Buf Go.Proofs.Ytldobldhmodjlaa.Pipe Go.Proofs.Ytldobldhmodjlaa.Frame Go.Proofs.Ytldobldhmodjlaa.PipeLaw

/-- How the plain pipe stands. -/
structure RSt where
  inn : List UInt8
  out : List UInt8
  cut : Int
  left : Int
  fin : Bool
  over : Bool
  brk : Bool
abbrev rcells (r : RSt) : Obj := .cells #[.string ⟨r.inn.toArray⟩, .string ⟨r.out.toArray⟩, .int .i64 r.cut, .int .i64 r.left, .bool r.fin, .bool r.over, .bool r.brk] 43 (0, 0)
def RefA (b : Nat) (r : RSt) : Asn := pt b (rcells r)
def RPost (W : World) (R : Asn) (b : Nat) (v : Value) (r : RSt) (e : Ending) (w' : World) : Prop := e = .returned v ∧ St W w' (star (RefA b r) R)

def RSt.ready (r : RSt) : Bool := !r.over && !r.brk && (decide (0 < r.inn.length) || r.fin)
def RSt.arrive (r : RSt) (s : List UInt8) : Int × RSt :=
  if r.fin || r.over || r.brk then (0, r) else (((min s.length (65536 - r.inn.length) : Nat) : Int), { r with inn := r.inn ++ s.take (65536 - r.inn.length) })
def RSt.cutN (r : RSt) : Nat := if 0 < r.cut ∧ r.cut < r.inn.length then r.cut.toNat else r.inn.length
def RSt.reading (r : RSt) : List UInt8 × Bool × RSt :=
  if r.ready then (if r.inn = [] then ([], true, r) else (r.inn.take r.cutN, false, { r with inn := r.inn.drop r.cutN })) else ([], false, r)
def RSt.writing (r : RSt) (s : List UInt8) : Int × Bool × RSt :=
  if r.over || r.brk then (0, false, r)
  else if 0 ≤ r.left ∧ r.left < s.length then (r.left, false, { r with out := r.out ++ s.take r.left.toNat, brk := true, inn := [] })
  else ((s.length : Int), true, { r with out := r.out ++ s, left := if 0 ≤ r.left then r.left - s.length else r.left })


theorem Ready_any {W w : World} {b : Nat} {r : RSt} {R : Asn} (h : St W w (star (RefA b r) R)) :
    Calls Try.prog 30 #[.pointer (some ⟨b, 0, none⟩)] w (Quiet w (.bool r.ready)) := by
  have c0 := h.cell 0 (v := .string ⟨r.inn.toArray⟩) rfl
  have c1 := h.cell 1 (v := .string ⟨r.out.toArray⟩) rfl
  have c2 := h.cell 2 (v := .int .i64 r.cut) rfl
  have c3 := h.cell 3 (v := .int .i64 r.left) rfl
  have c4 := h.cell 4 (v := .bool r.fin) rfl
  have c5 := h.cell 5 (v := .bool r.over) rfl
  have c6 := h.cell 6 (v := .bool r.brk) rfl
  have f0 := h.free 0
  have f1 := h.free 1
  have f3 := h.free 3
  have f5 := h.free 5
  have f6 := h.free 6
  clear h f0 f1 f3 f5 f6
  obtain ⟨inn, out, cut, left, fin, over, brk⟩ := r
  unfold RSt.ready
  simp only at *
  by_cases hl : 0 < inn.length
  all_goals
    have hl' : decide (0 < inn.length) = decide (0 < inn.length) := rfl
    clear hl'
    cases over <;> cases brk
    all_goals
      go_enter Try.func30, Try.ntmps30
      go_wp2
      go_ret
      exact (Quiet.mk0 _ _).eq (by simp [hl])

theorem Arrive_any {W w : World} {b : Nat} {r : RSt} {R : Asn} (s : List UInt8) (hs : s.length ≤ 140737488355328) (hi : r.inn.length ≤ 65536) (h : St W w (star (RefA b r) R)) :
    Calls Try.prog 46 #[.pointer (some ⟨b, 0, none⟩), .string ⟨s.toArray⟩] w (RPost W R b (.int .i64 (r.arrive s).1) (r.arrive s).2) := by
  have c0 := h.cell 0 (v := .string ⟨r.inn.toArray⟩) rfl
  have c1 := h.cell 1 (v := .string ⟨r.out.toArray⟩) rfl
  have c2 := h.cell 2 (v := .int .i64 r.cut) rfl
  have c3 := h.cell 3 (v := .int .i64 r.left) rfl
  have c4 := h.cell 4 (v := .bool r.fin) rfl
  have c5 := h.cell 5 (v := .bool r.over) rfl
  have c6 := h.cell 6 (v := .bool r.brk) rfl
  have f0 := h.free 0
  have f1 := h.free 1
  have f3 := h.free 3
  have f5 := h.free 5
  have f6 := h.free 6
  obtain ⟨inn, out, cut, left, fin, over, brk⟩ := r
  simp only at *
  have h0 := h
  have HS := Lib.hid fun k => (h.drewN k).setCell 0 (.string ⟨(inn ++ s.take (65536 - inn.length)).toArray⟩)
  clear h
  by_cases hc : (fin || over || brk) = true
  · have e : RSt.arrive ⟨inn, out, cut, left, fin, over, brk⟩ s = (0, ⟨inn, out, cut, left, fin, over, brk⟩) := if_pos hc
    rw [e]
    clear e
    cases fin <;> cases over <;> cases brk <;> simp at hc
    all_goals
      go_enter Try.func46, Try.ntmps46
      go_wp2
      go_ret
      exact ⟨rfl, h0⟩
  · have e : RSt.arrive ⟨inn, out, cut, left, fin, over, brk⟩ s = (((min s.length (65536 - inn.length) : Nat) : Int), ⟨inn ++ s.take (65536 - inn.length), out, cut, left, fin, over, brk⟩) := if_neg hc
    rw [e]
    clear e
    obtain ⟨⟨rfl, rfl⟩, rfl⟩ : (fin = false ∧ over = false) ∧ brk = false := by simpa using hc
    have hmin : (if (65536 : Int) - inn.length < s.length then (65536 : Int) - inn.length else (s.length : Int)) = ((min s.length (65536 - inn.length) : Nat) : Int) := by split <;> omega
    have htk : s.take (min s.length (65536 - inn.length)) = s.take (65536 - inn.length) := by
      by_cases hq : s.length ≤ 65536 - inn.length
      · rw [Nat.min_eq_left hq, List.take_of_length_le (Nat.le_refl _), List.take_of_length_le hq]
      · rw [Nat.min_eq_right (by omega)]
    have hstr := run_str_h (P := Try.prog) 9 Try.underlying9 s ((min s.length (65536 - inn.length) : Nat) : Int) (min s.length (65536 - inn.length)) rfl (by omega)
    rw [htk] at hstr
    have hadd := run_str_add (P := Try.prog) inn (s.take (65536 - inn.length)) (by simp; omega)
    have hmb : min s.length (65536 - inn.length) ≤ 65536 := by omega
    generalize min s.length (65536 - inn.length) = m at *
    clear htk hc
    go_enter Try.func46, Try.ntmps46
    go_wp2
    refine wp_region_canon [0, 1, 2, 3, 4, 5, 6, 7, 8, 9, 10, 11] (by kernel_rfl) (by kernel_rfl) ?_
    simp only [pickOps, nthOp]
    go_wp2
    simp only [Only]
    go_wp2
    go_ret
    exact ⟨rfl, HS.out 1⟩

theorem Read_any {W w : World} {b : Nat} {r : RSt} {R : Asn} (hi : r.inn.length ≤ 65536) (hcut : 0 ≤ r.cut) (h : St W w (star (RefA b r) R)) :
    Calls Try.prog 47 #[.pointer (some ⟨b, 0, none⟩)] w (RPost W R b (.tuple #[.string ⟨r.reading.1.toArray⟩, .bool r.reading.2.1]) r.reading.2.2) := by
  have c0 := h.cell 0 (v := .string ⟨r.inn.toArray⟩) rfl
  have c1 := h.cell 1 (v := .string ⟨r.out.toArray⟩) rfl
  have c2 := h.cell 2 (v := .int .i64 r.cut) rfl
  have c3 := h.cell 3 (v := .int .i64 r.left) rfl
  have c4 := h.cell 4 (v := .bool r.fin) rfl
  have c5 := h.cell 5 (v := .bool r.over) rfl
  have c6 := h.cell 6 (v := .bool r.brk) rfl
  have f0 := h.free 0
  have f1 := h.free 1
  have f3 := h.free 3
  have f5 := h.free 5
  have f6 := h.free 6
  have HR := Lib.hid (Ready_any h)
  have h0 := h
  have HS := Lib.hid fun k => (h.drewN k).setCell 0 (.string ⟨(r.inn.drop r.cutN).toArray⟩)
  clear h
  unfold RSt.reading
  cases hr : r.ready
  · rw [hr] at HR
    clear hr
    go_enter Try.func47, Try.ntmps47
    go_wp2_with fail
    refine HR.out.mono ?_
    rintro e w' ⟨rfl, k, rfl⟩
    go_wp2
    go_ret2
    exact ⟨rfl, h0.drewN k⟩
  · rw [hr] at HR
    clear hr
    simp only [if_true]
    by_cases hn : r.inn = []
    · rw [if_pos hn]
      rw [hn] at c0
      clear hn
      go_enter Try.func47, Try.ntmps47
      go_wp2_with fail
      refine HR.out.mono ?_
      rintro e w' ⟨rfl, k, rfl⟩
      go_wp2
      go_ret2
      exact ⟨rfl, h0.drewN k⟩
    · rw [if_neg hn]
      have hp : 0 < r.inn.length := by cases hq : r.inn <;> simp_all
      have hle : r.cutN ≤ r.inn.length := by unfold RSt.cutN; split <;> omega
      rcases (show (0 < r.cut ∧ r.cut < r.inn.length) ∨ r.cut = 0 ∨ (0 < r.cut ∧ (r.inn.length : Int) ≤ r.cut) from by omega) with ⟨h1, h2⟩ | h1 | ⟨h1, h2⟩
      · have hcn : r.cut = (r.cutN : Int) := by unfold RSt.cutN; rw [if_pos ⟨h1, h2⟩]; omega
        have hstr := run_str_h (P := Try.prog) 9 Try.underlying9 r.inn r.cut r.cutN hcn (by omega)
        have hstl := run_str_l (P := Try.prog) 9 Try.underlying9 r.inn r.cut r.cutN hcn (by omega)
        clear hcn hn
        go_enter Try.func47, Try.ntmps47
        go_wp2_with fail
        refine HR.out.mono ?_
        rintro e w' ⟨rfl, k, rfl⟩
        go_wp2
        go_ret2
        exact ⟨rfl, HS.out _⟩
      · have hcn : r.cutN = r.inn.length := by unfold RSt.cutN; rw [if_neg (by omega)]
        have hstr := run_str_h (P := Try.prog) 9 Try.underlying9 r.inn (r.inn.length : Int) r.cutN (by rw [hcn]) (by omega)
        have hstl := run_str_l (P := Try.prog) 9 Try.underlying9 r.inn (r.inn.length : Int) r.cutN (by rw [hcn]) (by omega)
        rw [h1] at c2
        clear hcn hn h1
        go_enter Try.func47, Try.ntmps47
        go_wp2_with fail
        refine HR.out.mono ?_
        rintro e w' ⟨rfl, k, rfl⟩
        go_wp2
        go_ret2
        exact ⟨rfl, HS.out _⟩
      · have hcn : r.cutN = r.inn.length := by unfold RSt.cutN; rw [if_neg (by omega)]
        have hstr := run_str_h (P := Try.prog) 9 Try.underlying9 r.inn (r.inn.length : Int) r.cutN (by rw [hcn]) (by omega)
        have hstl := run_str_l (P := Try.prog) 9 Try.underlying9 r.inn (r.inn.length : Int) r.cutN (by rw [hcn]) (by omega)
        clear hcn hn
        go_enter Try.func47, Try.ntmps47
        go_wp2_with fail
        refine HR.out.mono ?_
        rintro e w' ⟨rfl, k, rfl⟩
        go_wp2
        go_ret2
        exact ⟨rfl, HS.out _⟩

theorem Write_any {W w : World} {b : Nat} {r : RSt} {R : Asn} (s : List UInt8) (hs : r.out.length + s.length ≤ 140737488355328) (hl : -1 ≤ r.left) (hl2 : r.left ≤ 1152921504606846976) (h : St W w (star (RefA b r) R)) :
    Calls Try.prog 48 #[.pointer (some ⟨b, 0, none⟩), .string ⟨s.toArray⟩] w (RPost W R b (.tuple #[.int .i64 (r.writing s).1, .bool (r.writing s).2.1]) (r.writing s).2.2) := by
  have c0 := h.cell 0 (v := .string ⟨r.inn.toArray⟩) rfl
  have c1 := h.cell 1 (v := .string ⟨r.out.toArray⟩) rfl
  have c2 := h.cell 2 (v := .int .i64 r.cut) rfl
  have c3 := h.cell 3 (v := .int .i64 r.left) rfl
  have c4 := h.cell 4 (v := .bool r.fin) rfl
  have c5 := h.cell 5 (v := .bool r.over) rfl
  have c6 := h.cell 6 (v := .bool r.brk) rfl
  have f0 := h.free 0
  have f1 := h.free 1
  have f3 := h.free 3
  have f5 := h.free 5
  have f6 := h.free 6
  obtain ⟨inn, out, cut, left, fin, over, brk⟩ := r
  simp only at *
  have h0 := h
  unfold RSt.writing
  by_cases hc : (over || brk) = true
  · rw [if_pos hc]
    clear h
    cases over <;> cases brk <;> simp at hc
    all_goals
      go_enter Try.func48, Try.ntmps48
      go_wp2
      go_ret2
      exact ⟨rfl, h0⟩
  · rw [if_neg hc]
    obtain ⟨rfl, rfl⟩ : over = false ∧ brk = false := by simpa using hc
    by_cases hf : 0 ≤ left ∧ left < (s.length : Int)
    · rw [if_pos hf]
      obtain ⟨hf1, hf2⟩ := hf
      have hstr := run_str_h (P := Try.prog) 9 Try.underlying9 s left left.toNat (by omega) (by omega)
      have hadd := run_str_add (P := Try.prog) out (s.take left.toNat) (by simp; omega)
      have HS := Lib.hid fun k => (((h.drewN k).setCell 1 (.string ⟨(out ++ s.take left.toNat).toArray⟩)).setCell 6 (.bool true)).setCell 0 (.string ⟨#[]⟩)
      clear h hc
      go_enter Try.func48, Try.ntmps48
      go_wp2
      refine wp_region_canon [0, 1, 2, 3, 4, 5, 6, 7, 8, 9, 10, 11] (by kernel_rfl) (by kernel_rfl) ?_
      simp only [pickOps, nthOp]
      go_wp2
      simp only [Only]
      go_wp2
      go_ret2
      exact ⟨rfl, HS.out 1⟩
    · rw [if_neg hf]
      have hadd := run_str_add (P := Try.prog) out s (by omega)
      rcases (show left = -1 ∨ (0 ≤ left ∧ (s.length : Int) ≤ left) from by omega) with hf1 | ⟨hf1, hf2⟩
      · subst hf1
        have HS := Lib.hid fun (_ : Nat) => h.setCell 1 (.string ⟨(out ++ s).toArray⟩)
        clear h hc hf
        go_enter Try.func48, Try.ntmps48
        go_wp2
        go_ret2
        exact ⟨rfl, HS.out 1⟩
      · rw [if_pos hf1]
        have HS := Lib.hid fun (_ : Nat) => (h.setCell 3 (.int .i64 (left - s.length))).setCell 1 (.string ⟨(out ++ s).toArray⟩)
        clear h hc hf
        go_enter Try.func48, Try.ntmps48
        go_wp2
        go_ret2
        exact ⟨rfl, HS.out 1⟩

theorem End_any {W w : World} {b : Nat} {r : RSt} {R : Asn} (h : St W w (star (RefA b r) R)) :
    Calls Try.prog 49 #[.pointer (some ⟨b, 0, none⟩)] w (RPost W R b (.tuple #[]) { r with over := true, inn := [] }) := by
  have c0 := h.cell 0 (v := .string ⟨r.inn.toArray⟩) rfl
  have c1 := h.cell 1 (v := .string ⟨r.out.toArray⟩) rfl
  have c2 := h.cell 2 (v := .int .i64 r.cut) rfl
  have c3 := h.cell 3 (v := .int .i64 r.left) rfl
  have c4 := h.cell 4 (v := .bool r.fin) rfl
  have c5 := h.cell 5 (v := .bool r.over) rfl
  have c6 := h.cell 6 (v := .bool r.brk) rfl
  have f0 := h.free 0
  have f1 := h.free 1
  have f3 := h.free 3
  have f5 := h.free 5
  have f6 := h.free 6
  have HS := Lib.hid ((h.setCell 5 (.bool true)).setCell 0 (.string ⟨#[]⟩))
  clear h
  go_enter Try.func49, Try.ntmps49
  go_wp2
  go_end0
  exact ⟨rfl, HS.out⟩

end Go.Proofs.Ytldobldhmodjlaa.PipeRef
