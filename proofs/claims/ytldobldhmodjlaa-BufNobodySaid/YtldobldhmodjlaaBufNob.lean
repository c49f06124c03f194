import Derived.Test.YtldobldhmodjlaaBufLaw
namespace Go.Proofs.Ytldobldhmodjlaa.BufNob
open Go Go.RowKit Go.Proofs Go.Proofs.Ytldobldhmodjlaa.Sep Go.Proofs.Ytldobldhmodjlaa.Reg Go.Proofs.Ytldobldhmodjlaa.Buf Go.Proofs.Ytldobldhmodjlaa.Frame Go.Proofs.Ytldobldhmodjlaa.BufFind Go.Proofs.Ytldobldhmodjlaa.BufLaw

def NPost (W : World) (R : Asn) (b : Nat) (v : Value) (e : Ending) (w' : World) : Prop := e = .returned v ∧ St W w' (star (BufA b false 0 []) R)
theorem nob_Write {W w : World} {R : Asn} {b : Nat} (s : List UInt8) (hs : s.length ≤ 9223372036854775807) (h : St W w (star (BufA b false 0 []) R)) :
    Calls Try.prog 32 #[.pointer (some ⟨b, 0, none⟩), .string ⟨s.toArray⟩] w (NPost W R b (.int .i64 0)) := by
  refine (Buf.Write_any s hs h).mono ?_
  rintro e w' ⟨rfl, h'⟩
  exact ⟨by simp, by simpa using h'⟩
theorem nob_Read {W w : World} {R : Asn} {b : Nat} (n : Int) (h : St W w (star (BufA b false 0 []) R)) :
    Calls Try.prog 34 #[.pointer (some ⟨b, 0, none⟩), .int .i64 n] w (NPost W R b (.string ⟨#[]⟩)) := by
  refine (Buf.Read_any n h).mono ?_
  rintro e w' ⟨rfl, h'⟩
  exact ⟨by simp [peekN], by simpa using h'⟩
theorem nob_Peek {W w : World} {R : Asn} {b : Nat} (n : Int) (h : St W w (star (BufA b false 0 []) R)) :
    Calls Try.prog 40 #[.pointer (some ⟨b, 0, none⟩), .int .i64 n] w (Quiet w (.string ⟨#[]⟩)) := by
  have := Buf.Peek_any n h
  simpa [peekN] using this

set_option maxRecDepth 100000 in
set_option maxHeartbeats 1600000 in
theorem nobody_any {W w : World} {R : Asn} (hm : MaxLen W) (l : List UInt8) (n : Int) (h : St W w R) : Calls Try.prog 10 #[.string ⟨l.toArray⟩, .int .i64 n] w (Law W R) := by
  by_cases hl : 2000 < l.length
  · go_enter Try.func10, Try.ntmps10
    go_wp2_with fail
    refine (awake_any hm h).mono ?_
    rintro e w1 ⟨rfl, h1⟩
    go_wp2
    go_ret
    exact ⟨rfl, h1⟩
  · go_enter Try.func10, Try.ntmps10
    go_wp2_with fail
    refine (awake_any hm h).mono ?_
    rintro e w0 ⟨rfl, h0⟩
    have h1 : St W (w0.alloc (bcells 0 0 (.slice none 0 0) false)) (star (BufA w0.heap.size false 0 []) R) := by
      refine BufA.intro (at_ := 0) (v := .slice none 0 0) (n := 0) (all := []) (by omega) rfl (by simp) (by omega) (by omega) rfl ?_
      rw [show bytesV [] = [] from rfl, Row_nil, emp_star]
      exact h0.alloc _
    go_wp2_with fail
    generalize w0.alloc _ = w1 at *
    generalize w0.heap.size = b at *
    go_wp2_with fail
    refine (Buf.Write_nil l (by omega) _).mono ?_
    rintro e w2 hq
    have h2 := h1.quiet hq
    obtain ⟨rfl, -⟩ := hq
    go_wp2_with fail
    refine (Buf.Read_nil _ _).mono ?_
    rintro e w3 hq
    have h3 := h2.quiet hq
    obtain ⟨rfl, -⟩ := hq
    go_wp2_with fail
    refine (Buf.Peek_nil _ _).mono ?_
    rintro e w4 hq
    have h4 := h3.quiet hq
    obtain ⟨rfl, -⟩ := hq
    go_wp2_with fail
    refine (BufFind.Find_nil _ _).mono ?_
    rintro e w5 hq
    have h5 := h4.quiet hq
    obtain ⟨rfl, -⟩ := hq
    go_wp2_with fail
    refine (Buf.Len_nil _).mono ?_
    rintro e w6 hq
    have h6 := h5.quiet hq
    obtain ⟨rfl, -⟩ := hq
    go_wp2_with fail
    refine (Buf.Room_nil _).mono ?_
    rintro e w7 hq
    have h7 := h6.quiet hq
    obtain ⟨rfl, -⟩ := hq
    go_wp2_with fail
    refine (nob_Write l (by omega) h7).mono ?_
    rintro e w8 ⟨rfl, h8⟩
    go_wp2_with fail
    refine (nob_Read n h8).mono ?_
    rintro e w9 ⟨rfl, h9⟩
    go_wp2_with fail
    refine (nob_Peek n h9).mono ?_
    rintro e w10 hq
    have h10 := h9.quiet hq
    obtain ⟨rfl, -⟩ := hq
    go_wp2_with fail
    refine (show Calls Try.prog 33 #[.pointer (some ⟨b, 0, none⟩), .string ⟨l.toArray⟩] _ (NPost W R b (.int .i64 (-1))) from BufFind.Find_any hm l (by omega) h10).mono ?_
    rintro e w11 ⟨rfl, h11⟩
    go_wp2_with fail
    refine (show Calls Try.prog 43 #[.pointer (some ⟨b, 0, none⟩)] _ (Quiet _ (.int .i64 0)) from Buf.Len_any h11).mono ?_
    rintro e w12 hq
    have h12 := h11.quiet hq
    obtain ⟨rfl, -⟩ := hq
    go_wp2_with fail
    refine (show Calls Try.prog 36 #[.pointer (some ⟨b, 0, none⟩)] _ (Quiet _ (.int .i64 0)) from Buf.Room_any h12).mono ?_
    rintro e w13 hq
    have h13 := h12.quiet hq
    obtain ⟨rfl, -⟩ := hq
    go_wp2
    go_ret
    exact ⟨rfl, h13.right⟩

theorem nobody_walk (l : List UInt8) (_ : (⟨l.toArray⟩ : ByteArray).size ≤ maxLen) (n : Int) (_ : (Lit.int .i64 n).wf = true) {W : World} (hm : MaxLen W) : Calls Try.prog 10 #[.string ⟨l.toArray⟩, .int .i64 n] W (Law W emp) := nobody_any hm l n (St.start W)

end Go.Proofs.Ytldobldhmodjlaa.BufNob
