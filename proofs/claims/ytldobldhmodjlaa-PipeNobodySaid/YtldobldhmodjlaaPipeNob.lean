import Derived.Test.YtldobldhmodjlaaPipeLaw
namespace Go.Proofs.Ytldobldhmodjlaa.PipeNob
open Go Go.RowKit Go.Proofs Go.Proofs.Ytldobldhmodjlaa.Sep Go.Proofs.Ytldobldhmodjlaa.Reg Go.Proofs.Ytldobldhmodjlaa.Buf Go.Proofs.Ytldobldhmodjlaa.Pipe Go.Proofs.Ytldobldhmodjlaa.Frame Go.Proofs.Ytldobldhmodjlaa.PipeLaw 

set_option maxRecDepth 100000 in
set_option maxHeartbeats 1600000 in
theorem nobody_any {W w : World} {R : Asn} (l : List UInt8) (n : Int) (h : St W w R) : Calls Try.prog 7 #[.string ⟨l.toArray⟩, .int .i64 n] w (Law W R) := by
  by_cases hl : 2000 < l.length
  · go_enter Try.func7, Try.ntmps7
    go_wp2_with fail
    refine (awake_any h).mono ?_
    rintro e w1 ⟨rfl, h1⟩
    go_wp2
    go_ret
    exact ⟨rfl, h1⟩
  · go_enter Try.func7, Try.ntmps7
    go_wp2_with fail
    refine (awake_any h).mono ?_
    rintro e w1 ⟨rfl, h1⟩
    go_wp2_with fail
    refine (Pipe.Finish_nil  _).mono ?_
    rintro e w2 hq
    have h2 := h1.quiet hq
    obtain ⟨rfl, -⟩ := hq
    go_wp2_with fail
    refine (Pipe.End_nil  _).mono ?_
    rintro e w3 hq
    have h3 := h2.quiet hq
    obtain ⟨rfl, -⟩ := hq
    go_wp2_with fail
    refine (Pipe.Read_nil  _).mono ?_
    rintro e w4 hq
    have h4 := h3.quiet hq
    obtain ⟨rfl, -⟩ := hq
    go_wp2_with fail
    refine (Pipe.Write_nil _ _).mono ?_
    rintro e w5 hq
    have h5 := h4.quiet hq
    obtain ⟨rfl, -⟩ := hq
    go_wp2_with fail
    refine (Pipe.Arrive_nil _ _).mono ?_
    rintro e w6 hq
    have h6 := h5.quiet hq
    obtain ⟨rfl, -⟩ := hq
    go_wp2_with fail
    refine (Pipe.Cut_nil _ _).mono ?_
    rintro e w7 hq
    have h7 := h6.quiet hq
    obtain ⟨rfl, -⟩ := hq
    go_wp2_with fail
    refine (Pipe.Break_nil _ _).mono ?_
    rintro e w8 hq
    have h8 := h7.quiet hq
    obtain ⟨rfl, -⟩ := hq
    go_wp2_with fail
    refine (Pipe.Ready_nil  _).mono ?_
    rintro e w9 hq
    have h9 := h8.quiet hq
    obtain ⟨rfl, -⟩ := hq
    go_wp2_with fail
    refine (Pipe.Finished_nil  _).mono ?_
    rintro e w10 hq
    have h10 := h9.quiet hq
    obtain ⟨rfl, -⟩ := hq
    go_wp2_with fail
    refine (Pipe.Ended_nil  _).mono ?_
    rintro e w11 hq
    have h11 := h10.quiet hq
    obtain ⟨rfl, -⟩ := hq
    go_wp2_with fail
    refine (Pipe.Broken_nil  _).mono ?_
    rintro e w12 hq
    have h12 := h11.quiet hq
    obtain ⟨rfl, -⟩ := hq
    go_wp2_with fail
    refine (Pipe.Waits_nil  _).mono ?_
    rintro e w13 hq
    have h13 := h12.quiet hq
    obtain ⟨rfl, -⟩ := hq
    go_wp2_with fail
    refine (Pipe.Output_nil  _).mono ?_
    rintro e w14 hq
    have h14 := h13.quiet hq
    obtain ⟨rfl, -⟩ := hq
    go_wp2_with fail
    have hb : St W (w14.alloc (pcells ⟨false, false, false, false, [], [], 0, 0⟩ (.pointer none) (.slice none 0 0))) (star (PipeA w14.heap.size 0 ⟨false, false, false, false, [], [], 0, 0⟩) R) := by
      refine PipeA.intro (iv := .pointer none) (ov := .slice none 0 0) ?_
      have e0 : Row 5 1 (.slice none 0 0) 0 (bytesV []) = emp := Row_nil _ _
      show St W _ (star _ (star _ (star (Row 5 1 (.slice none 0 0) 0 (bytesV [])) R)))
      rw [e0, emp_star]
      exact (InA.none_ (h14.alloc _)).swap
    have hw : PSt.writing ⟨false, false, false, false, [], [], 0, 0⟩ l = ((l.length : Int), true, ⟨false, false, false, false, [], l, 0, -l.length⟩) := by simp [PSt.writing, PSt.closed, PSt.fails]
    have hcall := Pipe.Write_any l (by simp; omega) (by simp) (by simp) (by simp) hb
    rw [hw] at hcall
    have HB := Lib.hid hcall
    clear hcall hw hb
    go_wp2_with fail
    refine HB.out.mono ?_
    rintro e w15 ⟨rfl, h15⟩
    generalize w14.heap.size = p at *
    go_wp2_with fail
    refine (show Calls Try.prog 23 #[.pointer (some ⟨p, 0, none⟩)] _ (PPost W R p 0 (.tuple #[.string ⟨#[]⟩, .bool false]) ⟨false, false, false, false, [], l, 0, -l.length⟩) from Pipe.Read_any h15).mono ?_
    rintro e w16 ⟨rfl, h16⟩
    go_wp2_with fail
    refine (show Calls Try.prog 15 #[.pointer (some ⟨p, 0, none⟩), .string ⟨l.toArray⟩] _ (PPost W R p 0 (.int .i64 0) ⟨false, false, false, false, [], l, 0, -l.length⟩) from by simpa [PSt.arrive, PSt.closed] using Pipe.Arrive_any l (by omega) h16).mono ?_
    rintro e w17 ⟨rfl, h17⟩
    go_wp2_with fail
    refine (show Calls Try.prog 20 #[.pointer (some ⟨p, 0, none⟩)] _ (Quiet _ (.bool false)) from Pipe.Ready_any h17).mono ?_
    rintro e w18 hq
    have h18 := h17.quiet hq
    obtain ⟨rfl, -⟩ := hq
    go_wp2_with fail
    refine (show Calls Try.prog 18 #[.pointer (some ⟨p, 0, none⟩)] _ (Quiet _ (.string ⟨l.toArray⟩)) from Pipe.Output_any h18).mono ?_
    rintro e w19 hq
    have h19 := h18.quiet hq
    obtain ⟨rfl, -⟩ := hq
    go_wp2_with fail
    refine (show Calls Try.prog 19 #[.pointer (some ⟨p, 0, none⟩)] _ (Quiet _ (.bool false)) from Pipe.Broken_any h19).mono ?_
    rintro e w20 hq
    have h20 := h19.quiet hq
    obtain ⟨rfl, -⟩ := hq
    go_wp2_with fail
    refine (show Calls Try.prog 26 #[.pointer (some ⟨p, 0, none⟩)] _ (Quiet _ (.bool false)) from Pipe.Ended_any h20).mono ?_
    rintro e w21 hq
    have h21 := h20.quiet hq
    obtain ⟨rfl, -⟩ := hq
    go_wp2
    go_ret
    exact ⟨rfl, h21.right⟩

theorem nobody_walk (l : List UInt8) (_ : (⟨l.toArray⟩ : ByteArray).size ≤ maxLen) (n : Int) (_ : (Lit.int .i64 n).wf = true) (W : World) : Calls Try.prog 7 #[.string ⟨l.toArray⟩, .int .i64 n] W (Law W emp) := nobody_any l n (St.start W)

end Go.Proofs.Ytldobldhmodjlaa.PipeNob
