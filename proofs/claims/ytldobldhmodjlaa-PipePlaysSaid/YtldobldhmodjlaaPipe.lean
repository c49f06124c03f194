import Derived.Test.YtldobldhmodjlaaBuf
namespace Go.Proofs.Ytldobldhmodjlaa.Pipe
open Go Go.RowKit Go.Proofs Go.Proofs.Ytldobldhmodjlaa.Sep Go.Proofs.Ytldobldhmodjlaa.Reg Go.Proofs.Ytldobldhmodjlaa.Buf

/-- How a pipe stands. -/
structure PSt where
  bounded : Bool
  finished : Bool
  over : Bool
  broken : Bool
  inn : List UInt8
  out : List UInt8
  cut : Int
  left : Int

/-- The buffer of a pipe, or none (which is one without room). -/
def InA (v : Value) (mx : Nat) (l : List UInt8) : Asn := fun h =>
  (v = .pointer none ∧ mx = 0 ∧ l = [] ∧ emp h) ∨ ∃ b, v = .pointer (some ⟨b, 0, none⟩) ∧ BufA b true mx l h

theorem InA.elim {W w : World} {v : Value} {mx : Nat} {l : List UInt8} {R : Asn} (h : St W w (star (InA v mx l) R)) :
    (v = .pointer none ∧ mx = 0 ∧ l = [] ∧ St W w R) ∨ ∃ b, v = .pointer (some ⟨b, 0, none⟩) ∧ St W w (star (BufA b true mx l) R) := by
  have hr := h.right
  obtain ⟨hb, k, ⟨h1, h2, d, e, a, r⟩, f⟩ := h
  rcases a with ⟨rfl, rfl, rfl, _⟩ | ⟨b, rfl, hB⟩
  · exact .inl ⟨rfl, rfl, rfl, hr⟩
  · exact .inr ⟨b, rfl, hb, k, ⟨h1, h2, d, e, hB, r⟩, f⟩
theorem InA.none_ {W w : World} {R : Asn} (h : St W w R) : St W w (star (InA (.pointer none) 0 []) R) := by
  refine St.weak (A := star emp R) (by rw [emp_star]; exact h) fun k => ?_
  rintro ⟨h1, h2, d, e, a, r⟩
  exact ⟨h1, h2, d, e, .inl ⟨rfl, rfl, rfl, a⟩, r⟩
theorem InA.some_ {W w : World} {b mx : Nat} {l : List UInt8} {R : Asn} (h : St W w (star (BufA b true mx l) R)) : St W w (star (InA (.pointer (some ⟨b, 0, none⟩)) mx l) R) := by
  refine h.weak fun k => ?_
  rintro ⟨h1, h2, d, e, a, r⟩
  exact ⟨h1, h2, d, e, .inr ⟨b, rfl, a⟩, r⟩

theorem in_Len {W w : World} {v : Value} {mx : Nat} {l : List UInt8} {R : Asn} (h : St W w (star (InA v mx l) R)) :
    Calls Try.prog 43 #[v] w (Quiet w (.int .i64 l.length)) := by
  rcases InA.elim h with ⟨rfl, rfl, rfl, _⟩ | ⟨b, rfl, hB⟩
  · exact Len_nil w
  · exact Len_any hB

/-- What Read of a pipe's buffer leaves. -/
def InRead (W : World) (R : Asn) (v : Value) (mx : Nat) (l : List UInt8) (n : Int) (e : Ending) (w' : World) : Prop :=
  e = .returned (.string ⟨(peekN n l).toArray⟩) ∧ St W w' (star (InA v mx (l.drop n.toNat)) R)
theorem in_Read {W w : World} {v : Value} {mx : Nat} {l : List UInt8} {R : Asn} (n : Int) (h : St W w (star (InA v mx l) R)) :
    Calls Try.prog 34 #[v, .int .i64 n] w (InRead W R v mx l n) := by
  rcases InA.elim h with ⟨rfl, rfl, rfl, hB⟩ | ⟨b, rfl, hB⟩
  · refine (Read_nil n w).mono ?_
    rintro e w' ⟨rfl, k, rfl⟩
    exact ⟨by simp [peekN], by simpa using InA.none_ (hB.drewN k)⟩
  · refine (Read_any n hB).mono ?_
    rintro e w' ⟨rfl, h⟩
    exact ⟨rfl, InA.some_ h⟩
def InWrite (W : World) (R : Asn) (v : Value) (mx : Nat) (l s : List UInt8) (e : Ending) (w' : World) : Prop :=
  e = .returned (.int .i64 ((min s.length (mx - l.length) : Nat) : Int)) ∧ St W w' (star (InA v mx (l ++ s.take (mx - l.length))) R)
theorem in_Write {W w : World} {v : Value} {mx : Nat} {l : List UInt8} {R : Asn} (s : List UInt8) (hs : s.length ≤ 9223372036854775807) (h : St W w (star (InA v mx l) R)) :
    Calls Try.prog 32 #[v, .string ⟨s.toArray⟩] w (InWrite W R v mx l s) := by
  rcases InA.elim h with ⟨rfl, rfl, rfl, hB⟩ | ⟨b, rfl, hB⟩
  · refine (Write_nil s hs w).mono ?_
    rintro e w' ⟨rfl, k, rfl⟩
    exact ⟨by simp, by simpa using InA.none_ (hB.drewN k)⟩
  · refine (Write_any s hs hB).mono ?_
    rintro e w' ⟨rfl, h⟩
    exact ⟨rfl, InA.some_ h⟩

abbrev pcells (st : PSt) (iv ov : Value) : Obj :=
  .cells #[.bool st.bounded, .bool st.finished, .bool st.over, .bool st.broken, iv, ov, .int .i64 st.cut, .int .i64 st.left] 51 (0, 0)
def PipeA (p : Nat) (mx : Nat) (st : PSt) : Asn := ex fun iv : Value => ex fun ov : Value =>
  star (pt p (pcells st iv ov)) (star (InA iv mx st.inn) (Row 5 1 ov st.out.length (bytesV st.out)))

theorem PipeA.elim {W w : World} {p mx : Nat} {st : PSt} {R : Asn} (h : St W w (star (PipeA p mx st) R)) :
    ∃ iv ov, St W w (star (pt p (pcells st iv ov)) (star (InA iv mx st.inn) (star (Row 5 1 ov st.out.length (bytesV st.out)) R))) := by
  obtain ⟨iv, h⟩ := St.ex_iff.1 h
  obtain ⟨ov, h⟩ := St.ex_iff.1 h
  rw [star_assoc, star_assoc] at h
  exact ⟨iv, ov, h⟩
theorem PipeA.intro {W w : World} {p mx : Nat} {st : PSt} {R : Asn} {iv ov : Value} (h : St W w (star (pt p (pcells st iv ov)) (star (InA iv mx st.inn) (star (Row 5 1 ov st.out.length (bytesV st.out)) R)))) :
    St W w (star (PipeA p mx st) R) := by
  refine St.ex_iff.2 ⟨iv, St.ex_iff.2 ⟨ov, ?_⟩⟩
  rw [star_assoc, star_assoc]
  exact h

theorem PNew_St {W w : World} {R : Asn} (h : St W w R) :
    Calls Try.prog 14 #[] w fun e w' => ∃ p, e = .returned (.pointer (some ⟨p, 0, none⟩)) ∧ St W w' (star (PipeA p 65536 ⟨false, false, false, false, [], [], 0, 0⟩) R) := by
  have HC := Lib.hid (Buf.New_St (w := w) 65536 (by omega) h)
  go_enter Try.func14, Try.ntmps14
  go_wp2_with fail
  refine HC.out.mono ?_
  rintro e w' ⟨b, rfl, hB⟩
  go_wp2
  go_ret
  refine ⟨_, rfl, PipeA.intro (iv := .pointer (some ⟨b, 0, none⟩)) (ov := .slice none 0 0) ?_⟩
  have h1 := hB.alloc (pcells ⟨false, false, false, false, [], [], 0, 0⟩ (.pointer (some ⟨b, 0, none⟩)) (.slice none 0 0))
  have h2 := (InA.some_ h1.swap).swap
  have e0 : Row 5 1 (.slice none 0 0) 0 (bytesV []) = emp := Row_nil _ _
  show St W _ (star _ (star _ (star (Row 5 1 (.slice none 0 0) 0 (bytesV [])) R)))
  rw [e0, emp_star]
  exact h2

theorem closed_nil (w : World) : Calls Try.prog 44 #[.pointer none] w (Quiet w (.bool true)) := by
  go_enter Try.func44, Try.ntmps44
  go_wp2
  go_ret
  exact Quiet.mk0 _ _

def PSt.closed (st : PSt) : Bool := st.over || st.broken
theorem closed_any {W w : World} {p mx : Nat} {st : PSt} {R : Asn} (h : St W w (star (PipeA p mx st) R)) :
    Calls Try.prog 44 #[.pointer (some ⟨p, 0, none⟩)] w (Quiet w (.bool st.closed)) := by
  obtain ⟨iv, ov, h⟩ := PipeA.elim h
  have c2 := h.cell 2 (v := .bool st.over) rfl
  have c3 := h.cell 3 (v := .bool st.broken) rfl
  clear h
  unfold PSt.closed
  generalize st.over = a at *
  generalize st.broken = b at *
  cases a <;> cases b
  all_goals
    go_enter Try.func44, Try.ntmps44
    go_wp2
    go_ret
    exact Quiet.mk0 _ _

/-- What a method of a pipe leaves. -/
def PPost (W : World) (R : Asn) (p mx : Nat) (v : Value) (st : PSt) (e : Ending) (w' : World) : Prop := e = .returned v ∧ St W w' (star (PipeA p mx st) R)
theorem PPost.of_quiet {W w : World} {R : Asn} {p mx : Nat} {v : Value} {st : PSt} {e : Ending} {w' : World} (h : St W w (star (PipeA p mx st) R)) (q : Quiet w v e w') : PPost W R p mx v st e w' := ⟨q.1, h.quiet q⟩

def PSt.arrive (st : PSt) (mx : Nat) (s : List UInt8) : Int × PSt :=
  if st.closed || st.finished then (0, st) else (((min s.length (mx - st.inn.length) : Nat) : Int), { st with inn := st.inn ++ s.take (mx - st.inn.length) })

theorem Arrive_nil (s : List UInt8) (w : World) : Calls Try.prog 15 #[.pointer none, .string ⟨s.toArray⟩] w (Quiet w (.int .i64 0)) := by
  go_enter Try.func15, Try.ntmps15
  go_wp2_with fail
  refine (closed_nil _).mono ?_
  rintro e w' ⟨rfl, k, rfl⟩
  go_wp2
  go_ret
  exact Quiet.mkN _ _ _

theorem Arrive_any {W w : World} {p mx : Nat} {st : PSt} {R : Asn} (s : List UInt8) (hs : s.length ≤ 9223372036854775807) (h : St W w (star (PipeA p mx st) R)) :
    Calls Try.prog 15 #[.pointer (some ⟨p, 0, none⟩), .string ⟨s.toArray⟩] w (PPost W R p mx (.int .i64 (st.arrive mx s).1) (st.arrive mx s).2) := by
  have HC := Lib.hid (closed_any h)
  have h0 := h
  obtain ⟨iv, ov, h⟩ := PipeA.elim h
  have c1 := h.cell 1 (v := .bool st.finished) rfl
  have c4 := h.cell 4 (v := iv) rfl
  have HW := fun k => in_Write s hs (h.drewN k).swap
  have HW := Lib.hid HW
  · cases hcl : st.closed
    · cases hf : st.finished
      · rw [show st.arrive mx s = (((min s.length (mx - st.inn.length) : Nat) : Int), { st with inn := st.inn ++ s.take (mx - st.inn.length) }) from by unfold PSt.arrive; rw [hcl, hf]; rfl]
        rw [hcl] at HC
        rw [hf] at c1
        clear hcl hf
        go_enter Try.func15, Try.ntmps15
        go_wp2_with fail
        refine HC.out.mono ?_
        rintro e w' ⟨rfl, k, rfl⟩
        go_wp2_with fail
        refine (HW.out k).mono ?_
        rintro e w' ⟨rfl, hS⟩
        go_wp2
        go_ret
        exact ⟨rfl, PipeA.intro hS.swap⟩
      · rw [show st.arrive mx s = (0, st) from by unfold PSt.arrive; rw [hcl, hf]; rfl]
        rw [hcl] at HC
        rw [hf] at c1
        clear hcl hf
        go_enter Try.func15, Try.ntmps15
        go_wp2_with fail
        refine HC.out.mono ?_
        rintro e w' ⟨rfl, k, rfl⟩
        go_wp2
        go_ret
        exact ⟨rfl, h0.drewN k⟩
    · rw [show st.arrive mx s = (0, st) from by unfold PSt.arrive; rw [hcl]; rfl]
      rw [hcl] at HC
      clear hcl
      go_enter Try.func15, Try.ntmps15
      go_wp2_with fail
      refine HC.out.mono ?_
      rintro e w' ⟨rfl, k, rfl⟩
      go_wp2
      go_ret
      exact ⟨rfl, h0.drewN k⟩

theorem Ended_nil (w : World) : Calls Try.prog 26 #[.pointer none] w (Quiet w (.bool true)) := by
  go_enter Try.func26, Try.ntmps26
  go_wp2
  go_ret
  exact Quiet.mk0 _ _

theorem Broken_nil (w : World) : Calls Try.prog 19 #[.pointer none] w (Quiet w (.bool true)) := by
  go_enter Try.func19, Try.ntmps19
  go_wp2
  go_ret
  exact Quiet.mk0 _ _

theorem Finished_nil (w : World) : Calls Try.prog 27 #[.pointer none] w (Quiet w (.bool false)) := by
  go_enter Try.func27, Try.ntmps27
  go_wp2
  go_ret
  exact Quiet.mk0 _ _

theorem Waits_nil (w : World) : Calls Try.prog 21 #[.pointer none] w (Quiet w (.int .i64 0)) := by
  go_enter Try.func21, Try.ntmps21
  go_wp2
  go_ret
  exact Quiet.mk0 _ _

theorem Output_nil (w : World) : Calls Try.prog 18 #[.pointer none] w (Quiet w (.string ⟨#[]⟩)) := by
  go_enter Try.func18, Try.ntmps18
  go_wp2
  go_ret
  exact Quiet.mk0 _ _

theorem Finish_nil (w : World) : Calls Try.prog 24 #[.pointer none] w (Quiet w (.tuple #[])) := by
  go_enter Try.func24, Try.ntmps24
  go_wp2
  go_end0
  exact Quiet.mk0 _ _

theorem End_nil (w : World) : Calls Try.prog 25 #[.pointer none] w (Quiet w (.tuple #[])) := by
  go_enter Try.func25, Try.ntmps25
  go_wp2
  go_end0
  exact Quiet.mk0 _ _

theorem Cut_nil (n : Int) (w : World) : Calls Try.prog 22 #[.pointer none, .int .i64 n] w (Quiet w (.int .i64 2)) := by
  go_enter Try.func22, Try.ntmps22
  go_wp2
  go_ret
  exact Quiet.mk0 _ _

theorem Break_nil (n : Int) (w : World) : Calls Try.prog 16 #[.pointer none, .int .i64 n] w (Quiet w (.int .i64 2)) := by
  go_enter Try.func16, Try.ntmps16
  go_wp2
  go_ret
  exact Quiet.mk0 _ _

theorem Ended_any {W w : World} {p mx : Nat} {st : PSt} {R : Asn} (h : St W w (star (PipeA p mx st) R)) :
    Calls Try.prog 26 #[.pointer (some ⟨p, 0, none⟩)] w (Quiet w (.bool st.over)) := by
  obtain ⟨iv, ov, h⟩ := PipeA.elim h
  have c := h.cell 2 (v := .bool st.over) rfl
  clear h
  go_enter Try.func26, Try.ntmps26
  go_wp2
  go_ret
  exact Quiet.mk0 _ _

theorem Broken_any {W w : World} {p mx : Nat} {st : PSt} {R : Asn} (h : St W w (star (PipeA p mx st) R)) :
    Calls Try.prog 19 #[.pointer (some ⟨p, 0, none⟩)] w (Quiet w (.bool st.broken)) := by
  obtain ⟨iv, ov, h⟩ := PipeA.elim h
  have c := h.cell 3 (v := .bool st.broken) rfl
  clear h
  go_enter Try.func19, Try.ntmps19
  go_wp2
  go_ret
  exact Quiet.mk0 _ _

theorem Finished_any {W w : World} {p mx : Nat} {st : PSt} {R : Asn} (h : St W w (star (PipeA p mx st) R)) :
    Calls Try.prog 27 #[.pointer (some ⟨p, 0, none⟩)] w (Quiet w (.bool st.finished)) := by
  obtain ⟨iv, ov, h⟩ := PipeA.elim h
  have c := h.cell 1 (v := .bool st.finished) rfl
  clear h
  go_enter Try.func27, Try.ntmps27
  go_wp2
  go_ret
  exact Quiet.mk0 _ _

theorem Waits_any {W w : World} {p mx : Nat} {st : PSt} {R : Asn} (h : St W w (star (PipeA p mx st) R)) :
    Calls Try.prog 21 #[.pointer (some ⟨p, 0, none⟩)] w (Quiet w (.int .i64 st.inn.length)) := by
  obtain ⟨iv, ov, h⟩ := PipeA.elim h
  have c := h.cell 4 (v := iv) rfl
  have HL := Lib.hid (in_Len h.swap)
  clear h
  go_enter Try.func21, Try.ntmps21
  go_wp2_with fail
  refine HL.out.mono ?_
  rintro e w' ⟨rfl, k, rfl⟩
  go_wp2
  go_ret
  exact Quiet.mkN _ _ _

theorem Output_any {W w : World} {p mx : Nat} {st : PSt} {R : Asn} (h : St W w (star (PipeA p mx st) R)) :
    Calls Try.prog 18 #[.pointer (some ⟨p, 0, none⟩)] w (Quiet w (.string ⟨st.out.toArray⟩)) := by
  obtain ⟨iv, ov, h⟩ := PipeA.elim h
  have c := h.cell 5 (v := ov) rfl
  have hsl : Sl w 1 ov st.out.length (bytesV st.out) := (h.eq (by ac_rfl) : St W w (star (Row 5 1 ov st.out.length (bytesV st.out)) (star (pt p (pcells st iv ov)) (star (InA iv mx st.inn) R)))).rowSl
  have hcv := run_string_of (P := Try.prog) hsl 35 9 5 Try.underlying35 Try.underlying5 Try.underlying9
  clear h hsl
  go_enter Try.func18, Try.ntmps18
  go_wp2
  go_ret
  exact Quiet.mk0 _ _

def PSt.ready (st : PSt) : Bool := !st.closed && (decide (0 < st.inn.length) || st.finished)
theorem Ready_nil (w : World) : Calls Try.prog 20 #[.pointer none] w (Quiet w (.bool false)) := by
  go_enter Try.func20, Try.ntmps20
  go_wp2_with fail
  refine (closed_nil _).mono ?_
  rintro e w' ⟨rfl, k, rfl⟩
  go_wp2
  go_ret
  exact Quiet.mkN _ _ _
theorem Ready_any {W w : World} {p mx : Nat} {st : PSt} {R : Asn} (h : St W w (star (PipeA p mx st) R)) :
    Calls Try.prog 20 #[.pointer (some ⟨p, 0, none⟩)] w (Quiet w (.bool st.ready)) := by
  have HC := Lib.hid (closed_any h)
  obtain ⟨iv, ov, h⟩ := PipeA.elim h
  have c1 := h.cell 1 (v := .bool st.finished) rfl
  have c4 := h.cell 4 (v := iv) rfl
  have HL := Lib.hid fun k => in_Len (h.drewN k).swap
  clear h
  cases hcl : st.closed
  · by_cases hl : 0 < st.inn.length
    · rw [show st.ready = true from by unfold PSt.ready; simp [hcl, hl]]
      rw [hcl] at HC
      clear hcl
      go_enter Try.func20, Try.ntmps20
      go_wp2_with fail
      refine HC.out.mono ?_
      rintro e w' ⟨rfl, k, rfl⟩
      go_wp2_with fail
      refine (HL.out k).mono ?_
      rintro e w' ⟨rfl, k2, rfl⟩
      go_wp2
      go_ret
      exact Quiet.mkN _ _ _
    · rw [show st.ready = st.finished from by unfold PSt.ready; simp [hcl, hl]]
      rw [hcl] at HC
      clear hcl
      go_enter Try.func20, Try.ntmps20
      go_wp2_with fail
      refine HC.out.mono ?_
      rintro e w' ⟨rfl, k, rfl⟩
      go_wp2_with fail
      refine (HL.out k).mono ?_
      rintro e w' ⟨rfl, k2, rfl⟩
      go_wp2
      go_ret
      exact Quiet.mkN _ _ _
  · rw [show st.ready = false from by unfold PSt.ready; simp [hcl]]
    rw [hcl] at HC
    clear hcl
    go_enter Try.func20, Try.ntmps20
    go_wp2_with fail
    refine HC.out.mono ?_
    rintro e w' ⟨rfl, k, rfl⟩
    go_wp2
    go_ret
    exact Quiet.mkN _ _ _

theorem Finish_any {W w : World} {p mx : Nat} {st : PSt} {R : Asn} (h : St W w (star (PipeA p mx st) R)) :
    Calls Try.prog 24 #[.pointer (some ⟨p, 0, none⟩)] w (PPost W R p mx (.tuple #[]) { st with finished := true }) := by
  obtain ⟨iv, ov, h⟩ := PipeA.elim h
  have c := h.cell 1 (v := .bool st.finished) rfl
  have f := h.free 1
  have HS := Lib.hid (h.setCell 1 (.bool true))
  clear h
  go_enter Try.func24, Try.ntmps24
  go_wp2
  go_end0
  exact ⟨rfl, PipeA.intro HS.out⟩

def PSt.cutting (st : PSt) (n : Int) : Int × PSt := if n < 0 ∨ 65536 < n then (1, st) else (0, { st with cut := n })
theorem Cut_any {W w : World} {p mx : Nat} {st : PSt} {R : Asn} (n : Int) (h : St W w (star (PipeA p mx st) R)) :
    Calls Try.prog 22 #[.pointer (some ⟨p, 0, none⟩), .int .i64 n] w (PPost W R p mx (.int .i64 (st.cutting n).1) (st.cutting n).2) := by
  by_cases hn : n < 0 ∨ 65536 < n
  · rw [show st.cutting n = (1, st) from if_pos hn]
    rcases (show n < 0 ∨ (0 ≤ n ∧ 65536 < n) from by omega) with hn | ⟨hn, hn'⟩
    all_goals
      go_enter Try.func22, Try.ntmps22
      go_wp2
      go_ret
      exact ⟨rfl, h⟩
  · rw [show st.cutting n = (0, { st with cut := n }) from if_neg hn]
    have h1 : 0 ≤ n := by omega
    have h2 : n ≤ 65536 := by omega
    obtain ⟨iv, ov, h⟩ := PipeA.elim h
    have c := h.cell 6 (v := .int .i64 st.cut) rfl
    have f := h.free 6
    have HS := Lib.hid (h.setCell 6 (.int .i64 n))
    clear h hn
    go_enter Try.func22, Try.ntmps22
    go_wp2
    go_ret
    exact ⟨rfl, PipeA.intro HS.out⟩

def PSt.breaking (st : PSt) (n : Int) : Int × PSt := if n < 0 ∨ 1099511627776 < n then (1, st) else (0, { st with bounded := true, left := n })
theorem Break_any {W w : World} {p mx : Nat} {st : PSt} {R : Asn} (n : Int) (h : St W w (star (PipeA p mx st) R)) :
    Calls Try.prog 16 #[.pointer (some ⟨p, 0, none⟩), .int .i64 n] w (PPost W R p mx (.int .i64 (st.breaking n).1) (st.breaking n).2) := by
  by_cases hn : n < 0 ∨ 1099511627776 < n
  · rw [show st.breaking n = (1, st) from if_pos hn]
    rcases (show n < 0 ∨ (0 ≤ n ∧ 1099511627776 < n) from by omega) with hn | ⟨hn, hn'⟩
    all_goals
      go_enter Try.func16, Try.ntmps16
      go_wp2
      go_ret
      exact ⟨rfl, h⟩
  · rw [show st.breaking n = (0, { st with bounded := true, left := n }) from if_neg hn]
    have h1 : 0 ≤ n := by omega
    have h2 : n ≤ 1099511627776 := by omega
    obtain ⟨iv, ov, h⟩ := PipeA.elim h
    have c := h.cell 0 (v := .bool st.bounded) rfl
    have f := h.free 0
    have c' := h.cell 7 (v := .int .i64 st.left) rfl
    have f' := h.free 7
    have HS := Lib.hid ((h.setCell 0 (.bool true)).setCell 7 (.int .i64 n))
    clear h hn
    go_enter Try.func16, Try.ntmps16
    go_wp2
    go_ret
    exact ⟨rfl, PipeA.intro HS.out⟩

theorem drops_any {W w : World} {p mx : Nat} {st : PSt} {R : Asn} (h : St W w (star (PipeA p mx st) R)) :
    Calls Try.prog 45 #[.pointer (some ⟨p, 0, none⟩)] w (PPost W R p mx (.tuple #[]) { st with inn := st.inn.drop 65536 }) := by
  obtain ⟨iv, ov, h⟩ := PipeA.elim h
  have c := h.cell 4 (v := iv) rfl
  have HR := Lib.hid (in_Read 65536 h.swap)
  clear h
  go_enter Try.func45, Try.ntmps45
  go_wp2_with fail
  refine HR.out.mono ?_
  rintro e w' ⟨rfl, hS⟩
  go_wp2
  go_end0
  exact ⟨rfl, PipeA.intro hS.swap⟩

def PSt.ending (st : PSt) : PSt := { st with over := true, inn := st.inn.drop 65536 }
theorem End_any {W w : World} {p mx : Nat} {st : PSt} {R : Asn} (h : St W w (star (PipeA p mx st) R)) :
    Calls Try.prog 25 #[.pointer (some ⟨p, 0, none⟩)] w (PPost W R p mx (.tuple #[]) st.ending) := by
  obtain ⟨iv, ov, h⟩ := PipeA.elim h
  have c := h.cell 2 (v := .bool st.over) rfl
  have f := h.free 2
  have HS := Lib.hid (drops_any (st := { st with over := true }) (PipeA.intro (h.setCell 2 (.bool true))))
  clear h
  go_enter Try.func25, Try.ntmps25
  go_wp2_with fail
  refine HS.out.mono ?_
  rintro e w' ⟨rfl, hS⟩
  go_wp2
  go_end0
  exact ⟨rfl, hS⟩

/-- What Read takes. -/
def PSt.most (st : PSt) : Int := if st.cut = 0 then 65536 else st.cut
def PSt.reading (st : PSt) : List UInt8 × Bool × PSt :=
  if st.ready then (peekN st.most st.inn, (peekN st.most st.inn).isEmpty, { st with inn := st.inn.drop st.most.toNat }) else ([], false, st)
theorem Read_nil (w : World) : Calls Try.prog 23 #[.pointer none] w (Quiet w (.tuple #[.string ⟨#[]⟩, .bool false])) := by
  go_enter Try.func23, Try.ntmps23
  go_wp2_with fail
  refine (Ready_nil _).mono ?_
  rintro e w' ⟨rfl, k, rfl⟩
  go_wp2
  go_ret2
  exact Quiet.mkN _ _ _
theorem Read_any {W w : World} {p mx : Nat} {st : PSt} {R : Asn} (h : St W w (star (PipeA p mx st) R)) :
    Calls Try.prog 23 #[.pointer (some ⟨p, 0, none⟩)] w (PPost W R p mx (.tuple #[.string ⟨st.reading.1.toArray⟩, .bool st.reading.2.1]) st.reading.2.2) := by
  have HC := Lib.hid (Ready_any h)
  have h0 := h
  obtain ⟨iv, ov, h⟩ := PipeA.elim h
  have c6 := h.cell 6 (v := .int .i64 st.cut) rfl
  have c4 := h.cell 4 (v := iv) rfl
  have HR := Lib.hid fun k => in_Read st.most (h.drewN k).swap
  clear h
  unfold PSt.reading
  cases hr : st.ready
  · rw [hr] at HC
    clear hr
    go_enter Try.func23, Try.ntmps23
    go_wp2_with fail
    refine HC.out.mono ?_
    rintro e w' ⟨rfl, k, rfl⟩
    go_wp2
    go_ret2
    exact ⟨rfl, h0.drewN k⟩
  · rw [hr] at HC
    clear hr
    simp only [if_true]
    by_cases hc : st.cut = 0
    · have hm : st.most = 65536 := if_pos hc
      rw [hm] at HR ⊢
      rw [hc] at c6
      clear hc hm
      go_enter Try.func23, Try.ntmps23
      go_wp2_with fail
      refine HC.out.mono ?_
      rintro e w' ⟨rfl, k, rfl⟩
      go_wp2_with fail
      refine (HR.out k).mono ?_
      rintro e w' ⟨rfl, hS⟩
      go_wp2
      go_ret2
      exact ⟨rfl, PipeA.intro hS.swap⟩
    · have hm : st.most = st.cut := if_neg hc
      rw [hm] at HR ⊢
      have hc' : (st.cut == 0) = false := by simpa using hc
      clear hc hm
      go_enter Try.func23, Try.ntmps23
      go_wp2_with fail
      refine HC.out.mono ?_
      rintro e w' ⟨rfl, k, rfl⟩
      go_wp2_with fail
      refine (HR.out k).mono ?_
      rintro e w' ⟨rfl, hS⟩
      go_wp2
      go_ret2
      exact ⟨rfl, PipeA.intro hS.swap⟩

/-- What Write writes. -/
def PSt.fails (st : PSt) (s : List UInt8) : Bool := st.bounded && decide (st.left < s.length)
def PSt.writing (st : PSt) (s : List UInt8) : Int × Bool × PSt :=
  if st.closed then (0, false, st)
  else if st.fails s then (st.left, false, { st with broken := true, inn := st.inn.drop 65536, out := st.out ++ s.take st.left.toNat, left := 0 })
  else ((s.length : Int), true, { st with out := st.out ++ s, left := st.left - s.length })

theorem Write_nil (s : List UInt8) (w : World) : Calls Try.prog 17 #[.pointer none, .string ⟨s.toArray⟩] w (Quiet w (.tuple #[.int .i64 0, .bool false])) := by
  go_enter Try.func17, Try.ntmps17
  go_wp2_with fail
  refine (closed_nil _).mono ?_
  rintro e w' ⟨rfl, k, rfl⟩
  go_wp2
  go_ret2
  exact Quiet.mkN _ _ _

theorem write_fin {W w : World} {p mx n : Nat} {st : PSt} {R : Asn} {iv v : Value} {xs : List Value} (hn : n = st.out.length) (hx : xs = bytesV st.out)
    (h : St W w (star (pt p (pcells st iv v)) (star (Row 5 1 v n xs) (star (InA iv mx st.inn) R)))) : St W w (star (PipeA p mx st) R) := by
  subst hn; subst hx
  exact PipeA.intro (h.eq (by ac_rfl))

theorem Write_any {W w : World} {p mx : Nat} {st : PSt} {R : Asn} (s : List UInt8) (hs : st.out.length + s.length ≤ 140737488355328) (hl0 : -1152921504606846976 ≤ st.left) (hl1 : st.left ≤ 1152921504606846976) (hb : st.bounded = true → 0 ≤ st.left)
    (h : St W w (star (PipeA p mx st) R)) :
    Calls Try.prog 17 #[.pointer (some ⟨p, 0, none⟩), .string ⟨s.toArray⟩] w (PPost W R p mx (.tuple #[.int .i64 (st.writing s).1, .bool (st.writing s).2.1]) (st.writing s).2.2) := by
  have HC := Lib.hid (closed_any h)
  have h0 := h
  obtain ⟨i0, hi, hz0, hz1, hz2⟩ := info_parts info5
  obtain ⟨iv, ov, h⟩ := PipeA.elim h
  unfold PSt.writing
  cases hcl : st.closed
  · rw [hcl] at HC
    clear hcl
    simp only [Bool.false_eq_true, if_false]
    cases hf : st.fails s
    · simp only [Bool.false_eq_true, if_false]
      have c0 := h.cell 0 (v := .bool st.bounded) rfl
      have c5 := h.cell 5 (v := ov) rfl
      have c7 := h.cell 7 (v := .int .i64 st.left) rfl
      have hrow : ∀ k, St W (w.drewN k) (star (Row 5 1 ov st.out.length (bytesV st.out)) (star (pt p (pcells st iv ov)) (star (InA iv mx st.inn) R))) := fun k => (h.drewN k).eq (by ac_rfl)
      have HRow := Lib.hid hrow
      clear hrow
      unfold PSt.fails at hf
      rcases (show st.bounded = false ∨ (st.bounded = true ∧ (s.length : Int) ≤ st.left) from by
        cases hbd : st.bounded
        · exact .inl rfl
        · rw [hbd] at hf; exact .inr ⟨rfl, by simpa using hf⟩) with hbd | ⟨hbd, hle⟩
      all_goals
        rw [hbd] at c0
        clear hf
        go_enter Try.func17, Try.ntmps17
        go_wp2_with fail
        refine HC.out.mono ?_
        rintro e w' ⟨rfl, k, rfl⟩
        go_wp2_with (at_builtin; refine wpList_append_str rfl (.tmp 38) (.tmp 39) 35 9 rfl 5 i0 Try.underlying35 Try.underlying9 hi hz0 hz1 hz2 _ st.out.length (bytesV st.out) rfl (HRow.out _) _ rfl ?_ ?_)
        · simp only [ByteArray.size, List.size_toArray]; omega
        intro v' w2 hS2 _
        obtain ⟨_, a2, c2, rfl, _⟩ := id hS2.rowSl
        have g1 := hS2.swap.cell 5 (v := ov) rfl
        have g2 := hS2.swap.free 5
        have g3 := hS2.swap.cell 7 (v := .int .i64 st.left) rfl
        have g4 := hS2.swap.free 7
        go_wp2
        go_ret2
        exact ⟨rfl, write_fin (by simp) (by simp [bytesV]) ((hS2.swap.setCell 5 _).setCell 7 _)⟩
    · simp only [if_true]
      unfold PSt.fails at hf
      obtain ⟨hbd, hle⟩ : st.bounded = true ∧ st.left < (s.length : Int) := by simpa using hf
      have hb0 := hb hbd
      have c0 := h.cell 0 (v := .bool st.bounded) rfl
      have c3 := h.cell 3 (v := .bool st.broken) rfl
      have f3 := h.free 3
      have c7 := h.cell 7 (v := .int .i64 st.left) rfl
      rw [hbd] at c0
      have HD := Lib.hid fun k => drops_any (st := { st with broken := true }) (PipeA.intro ((h.drewN k).setCell 3 (.bool true)))
      have hstr := run_str_h (P := Try.prog) 9 Try.underlying9 s st.left st.left.toNat (by omega) (by omega)
      clear hf hbd hb
      go_enter Try.func17, Try.ntmps17
      go_wp2_with fail
      refine HC.out.mono ?_
      rintro e w' ⟨rfl, k, rfl⟩
      go_wp2_with fail
      refine (HD.out k).mono ?_
      rintro e w1 ⟨rfl, hS1⟩
      obtain ⟨iv1, ov1, hS1⟩ := PipeA.elim hS1
      have d5 := hS1.cell 5 (v := ov1) rfl
      have d7 := hS1.cell 7 (v := .int .i64 st.left) rfl
      go_wp2_with (at_builtin; refine wpList_append_str rfl (.tmp 38) (.tmp 39) 35 9 rfl 5 i0 Try.underlying35 Try.underlying9 hi hz0 hz1 hz2 _ st.out.length (bytesV st.out) rfl (hS1.eq (by ac_rfl) : St W w1 (star (Row 5 1 ov1 st.out.length (bytesV st.out)) (star (pt p _) (star (InA iv1 mx (st.inn.drop 65536)) R)))) _ rfl ?_ ?_)
      · simp only [ByteArray.size, List.size_toArray, List.length_take]; omega
      intro v' w2 hS2 _
      obtain ⟨_, a2, c2, rfl, _⟩ := id hS2.rowSl
      have g1 := hS2.swap.cell 5 (v := ov1) rfl
      have g2 := hS2.swap.free 5
      have g3 := hS2.swap.cell 7 (v := .int .i64 st.left) rfl
      have g4 := hS2.swap.free 7
      go_wp2
      have hm : ((min st.left.toNat s.length : Nat) : Int) = st.left := by omega
      simp only [hm, Int.sub_self]
      go_ret2
      exact ⟨rfl, write_fin (by simp) (by simp [bytesV]) ((hS2.swap.setCell 5 _).setCell 7 _)⟩
  · rw [hcl] at HC
    clear hcl
    go_enter Try.func17, Try.ntmps17
    go_wp2_with fail
    refine HC.out.mono ?_
    rintro e w' ⟨rfl, k, rfl⟩
    go_wp2
    go_ret2
    exact ⟨rfl, h0.drewN k⟩

end Go.Proofs.Ytldobldhmodjlaa.Pipe
