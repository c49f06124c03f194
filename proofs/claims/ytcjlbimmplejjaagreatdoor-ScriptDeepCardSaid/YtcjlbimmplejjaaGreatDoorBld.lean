import Derived.Test.YtcjlbimmplejjaaGreatDoorProg
import Derived.Test.YtcjlbimmplejjaaGreatDoorSep
import Derived.Test.YtcjlbimmplejjaaGreatDoorReg
import Derived.Test.YtcjlbimmplejjaaGreatDoorShelf
import Derived.Lib.Builder
namespace Go.Proofs.YtcjlbimmplejjaaGreatDoor.Bld
open Go Go.RowKit Go.Proofs Go.Proofs.YtcjlbimmplejjaaGreatDoor.Sep Go.Proofs.YtcjlbimmplejjaaGreatDoor.Reg

theorem info5 : (Tryz.prog.info? 5).map (fun i => (i.zero, i.size, i.bytes)) = some (some (.int .u8 0), 1, 1) := by kernel_rfl

/-- A strings.Builder: fresh or used. -/
def BldA (b : Nat) (l : List UInt8) : Asn := ex fun p : Value => ex fun v : Value =>
  star (pu (p = .pointer none ∨ p = .pointer (some ⟨b, 0, none⟩))) (star (pt b (.cells #[p, v] 73 (0, 0))) (Row 5 1 v l.length (bytesV l)))
theorem BldA.elim {W w : World} {b : Nat} {l : List UInt8} {R : Asn} (h : St W w (star (BldA b l) R)) :
    ∃ p v, (p = .pointer none ∨ p = .pointer (some ⟨b, 0, none⟩)) ∧ St W w (star (pt b (.cells #[p, v] 73 (0, 0))) (star (Row 5 1 v l.length (bytesV l)) R)) := by
  unfold BldA at h
  obtain ⟨p, h⟩ := St.ex_iff.1 h
  obtain ⟨v, h⟩ := St.ex_iff.1 h
  rw [star_assoc] at h
  obtain ⟨hp, h⟩ := St.pu_iff.1 h
  rw [star_assoc] at h
  exact ⟨p, v, hp, h⟩
theorem BldA.intro {W w : World} {b : Nat} {l : List UInt8} {R : Asn} {p v : Value} (hp : p = .pointer none ∨ p = .pointer (some ⟨b, 0, none⟩))
    (h : St W w (star (pt b (.cells #[p, v] 73 (0, 0))) (star (Row 5 1 v l.length (bytesV l)) R))) : St W w (star (BldA b l) R) := by
  unfold BldA
  refine St.ex_iff.2 ⟨p, St.ex_iff.2 ⟨v, ?_⟩⟩
  rw [star_assoc]
  refine St.pu_iff.2 ⟨hp, ?_⟩
  rw [star_assoc]
  exact h
theorem BldA.new {W w : World} {R : Asn} (h : St W w R) : St W (w.alloc (.cells #[.pointer none, .slice none 0 0] 73 (0, 0))) (star (BldA w.heap.size []) R) := by
  refine BldA.intro (v := .slice none 0 0) (.inl rfl) ?_
  rw [show bytesV [] = [] from rfl, show ([] : List UInt8).length = 0 from rfl, Row_nil, emp_star]
  exact h.alloc _

def CPost (W : World) (R : Asn) (b : Nat) (v : Value) (e : Ending) (w' : World) : Prop :=
  e = .returned (.tuple #[]) ∧ St W w' (star (pt b (.cells #[.pointer (some ⟨b, 0, none⟩), v] 73 (0, 0))) R)
theorem sizeBuilder : (Tryz.prog.info? 73).map (·.size) = some 2 := by kernel_rfl
set_option maxRecDepth 100000 in
set_option maxHeartbeats 1000000 in
theorem copyCheck_any {W w : World} {R : Asn} {b : Nat} {p v : Value} (hp : p = .pointer none ∨ p = .pointer (some ⟨b, 0, none⟩)) (h : St W w (star (pt b (.cells #[p, v] 73 (0, 0))) R)) :
    Calls Tryz.prog 58 #[.pointer (some ⟨b, 0, none⟩)] w (CPost W R b v) := by
  obtain ⟨j, hj, hjs⟩ := Option.map_eq_some_iff.1 sizeBuilder
  have c0 := h.cell 0 (v := p) rfl
  have f0 := h.free 0
  have s0 := Lib.hid (h.setCell 0 (.pointer (some ⟨b, 0, none⟩)))
  have hsh : w.shape? b = some (73, 2) := by
    have := h.blk
    simp [World.shape?, this]
  rcases hp with rfl | rfl
  · have c1 := s0.out.cell 0 (v := .pointer (some ⟨b, 0, none⟩)) rfl
    go_enter Tryz.func58, Tryz.ntmps58
    go_wp2
    rw [Lib.run_to_unsafe w ⟨b, 0, none⟩ Tryz.underlying71 Tryz.underlying120 hj (by rw [hjs]; decide) hsh (Nat.zero_lt_succ 1)]
    simp only [Result.andThen]
    rw [Oper.upon_value]
    go_wp2
    rw [run_callFunc_extern Tryz.func77 (by kernel_rfl) (by kernel_rfl) (by kernel_rfl) (e := Extern.AbiNoEscape.same) (by kernel_rfl)]
    rw [Lib.run_noEscape]
    simp only [Result.andThen]
    rw [Oper.upon_value]
    go_wp2
    rw [Lib.run_from_unsafe w ⟨b, 0, none⟩ Tryz.underlying120 Tryz.underlying71 hj hsh (by kernel_rfl)]
    simp only [Result.andThen]
    rw [Oper.upon_value]
    go_wp2
    go_end0
    exact ⟨rfl, s0.out⟩
  · go_enter Tryz.func58, Tryz.ntmps58
    go_wp2
    rw [Lib.run_neq_ptr_same w _ Tryz.underlying71 hj]
    go_wp2
    go_end0
    exact ⟨rfl, h⟩

def BPostB (W : World) (R : Asn) (b : Nat) (l : List UInt8) (v : Value) (e : Ending) (w' : World) : Prop := e = .returned v ∧ St W w' (star (BldA b l) R)
set_option maxRecDepth 100000 in
set_option maxHeartbeats 1000000 in
theorem WriteString_any {W w : World} {R : Asn} {b : Nat} {l : List UInt8} (s : List UInt8) (hs : s.length ≤ 1000000000) (hl : l.length ≤ 1000000000) (h : St W w (star (BldA b l) R)) :
    Calls Tryz.prog 36 #[.pointer (some ⟨b, 0, none⟩), .string ⟨s.toArray⟩] w (BPostB W R b (l ++ s) (.tuple #[.int .i64 s.length, .nilIface])) := by
  obtain ⟨i0, hi, hz0, hz1, hz2⟩ := info_parts info5
  obtain ⟨p, v, hp, hS⟩ := BldA.elim h
  have HC := Lib.hid (copyCheck_any hp hS)
  obtain ⟨_, a, cp, rfl, _⟩ := hS.swap.rowSl
  clear h hS hp
  go_enter Tryz.func36, Tryz.ntmps36
  go_wp2_with fail
  refine HC.out.mono ?_
  rintro e w1 ⟨rfl, h1⟩
  have d1 := h1.cell 1 (v := .slice a l.length cp) rfl
  go_wp2_with (at_builtin; refine wpList_append_str rfl (.tmp 12) (.tmp 13) 67 9 rfl 5 i0 Tryz.underlying67 Tryz.underlying9 hi hz0 hz1 hz2 _ l.length (bytesV l) rfl h1.swap _ rfl ?_ ?_)
  · simp only [ByteArray.size, List.size_toArray]; omega
  intro v' w4 hS4 _
  obtain ⟨_, a4, c4, rfl, _⟩ := id hS4.rowSl
  have f2 := hS4.swap.free 1
  have d2 := hS4.swap.cell 1 (v := .slice a l.length cp) rfl
  have hfin := Lib.hid (hS4.swap.setCell 1 (.slice a4 (l.length + s.length) c4))
  go_wp2
  go_ret2
  refine ⟨rfl, BldA.intro (.inr rfl) (v := .slice a4 (l.length + s.length) c4) ?_⟩
  have := hfin.out
  rw [← bytesV_append] at this
  rw [show (l ++ s).length = l.length + s.length from by simp]
  exact this

theorem BldA.lib {W w : World} {b : Nat} {l : List UInt8} (h : St W w (star (BldA b l) emp)) : Lib.IsBuilder 73 5 W.heap.size b (Lib.byteCells l) w := by
  obtain ⟨p, v, hp, hS⟩ := BldA.elim h
  have hat : Lib.BuilderAt 73 5 W.heap.size b p (Lib.byteCells l) w := by
    obtain ⟨hl, hv⟩ := hS.swap.row
    have hlen : (Lib.byteCells l).length = l.length := by simp [Lib.byteCells]
    refine ⟨hS.ge, v, hS.blk, ?_, ?_⟩
    · rw [hlen]
      rcases hv with ⟨rfl, h0, _, _⟩ | ⟨g, cap, cur, rfl, h1, h2, h3, h4, h5⟩
      · exact ⟨by rw [hlen]; omega, .inl ⟨rfl, h0⟩⟩
      · exact ⟨by rw [hlen]; omega, .inr ⟨g, cap, cur, rfl, h5.ge, h5.blk, h1, h2, h3, h4⟩⟩
    · rcases hv with ⟨rfl, h0, _, _⟩ | ⟨g, cap, cur, rfl, h1, h2, h3, h4, h5⟩
      · simp [Value.ownBlock]
      · have hne := St.ne h5
        simp [Value.ownBlock]
        exact hne
  rcases hp with rfl | rfl
  · exact .inl hat
  · exact .inr hat
theorem String_any {W w : World} {b : Nat} {l : List UInt8} (h : St W w (star (BldA b l) emp)) :
    Calls Tryz.prog 38 #[.pointer (some ⟨b, 0, none⟩)] w fun e w' => e = .returned (.string ⟨l.toArray⟩) ∧ Below W.heap.size w w' :=
  Tryz.Builder_String_any W.heap.size b l w (BldA.lib h) h.below.size

end Go.Proofs.YtcjlbimmplejjaaGreatDoor.Bld
