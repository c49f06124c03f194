import Derived.Test.YtldobldhmodjlaaPipe
import Derived.Test.YtldobldhmodjlaaFrame
namespace Go.Proofs.Ytldobldhmodjlaa.PipeLaw
open Go Go.RowKit Go.Proofs Go.Proofs.Ytldobldhmodjlaa.Sep Go.Proofs.Ytldobldhmodjlaa.Reg Go.Proofs.Ytldobldhmodjlaa.Buf Go.Proofs.Ytldobldhmodjlaa.Pipe Go.Proofs.Ytldobldhmodjlaa.Frame

set_option maxRecDepth 100000 in
theorem awake_any {W w : World} {R : Asn} (h : St W w R) : Calls Try.prog 13 #[] w (Law W R) := by
  go_enter Try.func13, Try.ntmps13
  go_wp2_with fail
  refine (PNew_St h).mono ?_
  rintro e w1 ⟨p, rfl, h1⟩
  go_wp2_with fail
  refine (show Calls Try.prog 15 #[.pointer (some ⟨p, 0, none⟩), .string ⟨[104, 101, 108, 108, 111].toArray⟩] _ (PPost W R p 65536 (.int .i64 5) ⟨false, false, false, false, [104, 101, 108, 108, 111], [], 0, 0⟩) from Arrive_any ([104, 101, 108, 108, 111]) (by decide) h1).mono ?_
  rintro e w2 ⟨rfl, h2⟩
  go_wp2_with fail
  refine (show Calls Try.prog 22 #[.pointer (some ⟨p, 0, none⟩), .int .i64 2] _ (PPost W R p 65536 (.int .i64 0) ⟨false, false, false, false, [104, 101, 108, 108, 111], [], 2, 0⟩) from Cut_any (2)  h2).mono ?_
  rintro e w3 ⟨rfl, h3⟩
  go_wp2_with fail
  refine (show Calls Try.prog 23 #[.pointer (some ⟨p, 0, none⟩)] _ (PPost W R p 65536 (.tuple #[.string ⟨[104, 101].toArray⟩, .bool false]) ⟨false, false, false, false, [108, 108, 111], [], 2, 0⟩) from Read_any   h3).mono ?_
  rintro e w4 ⟨rfl, h4⟩
  go_wp2_with fail
  refine (show Calls Try.prog 17 #[.pointer (some ⟨p, 0, none⟩), .string ⟨[97, 98].toArray⟩] _ (PPost W R p 65536 (.tuple #[.int .i64 2, .bool true]) ⟨false, false, false, false, [108, 108, 111], [97, 98], 2, -2⟩) from Write_any ([97, 98]) (by decide) (by decide) (by decide) (by decide) h4).mono ?_
  rintro e w5 ⟨rfl, h5⟩
  go_wp2_with fail
  refine (show Calls Try.prog 16 #[.pointer (some ⟨p, 0, none⟩), .int .i64 1] _ (PPost W R p 65536 (.int .i64 0) ⟨true, false, false, false, [108, 108, 111], [97, 98], 2, 1⟩) from Break_any (1)  h5).mono ?_
  rintro e w6 ⟨rfl, h6⟩
  go_wp2_with fail
  refine (show Calls Try.prog 17 #[.pointer (some ⟨p, 0, none⟩), .string ⟨[99, 100].toArray⟩] _ (PPost W R p 65536 (.tuple #[.int .i64 1, .bool false]) ⟨true, false, false, true, [], [97, 98, 99], 2, 0⟩) from Write_any ([99, 100]) (by decide) (by decide) (by decide) (by decide) h6).mono ?_
  rintro e w7 ⟨rfl, h7⟩
  go_wp2_with fail
  refine (show Calls Try.prog 19 #[.pointer (some ⟨p, 0, none⟩)] _ (Quiet _ (.bool true)) from Broken_any h7).mono ?_
  rintro e w8 hq
  have h8 := h7.quiet hq
  obtain ⟨rfl, -⟩ := hq
  go_wp2_with fail
  refine (show Calls Try.prog 18 #[.pointer (some ⟨p, 0, none⟩)] _ (Quiet _ (.string ⟨[97, 98, 99].toArray⟩)) from Output_any h8).mono ?_
  rintro e w9 hq
  have h9 := h8.quiet hq
  obtain ⟨rfl, -⟩ := hq
  go_wp2_with fail
  refine (show Calls Try.prog 26 #[.pointer (some ⟨p, 0, none⟩)] _ (Quiet _ (.bool false)) from Ended_any h9).mono ?_
  rintro e w10 hq
  have h10 := h9.quiet hq
  obtain ⟨rfl, -⟩ := hq
  go_wp2
  go_ret
  exact ⟨rfl, h10.right⟩

set_option maxRecDepth 100000 in
set_option maxHeartbeats 800000 in
theorem known_any {W w : World} {R : Asn} (h : St W w R) : Calls Try.prog 5 #[] w (Law W R) := by
  go_enter Try.func5, Try.ntmps5
  go_wp2_with fail
  refine (PNew_St h).mono ?_
  rintro e w1 ⟨p, rfl, h1⟩
  go_wp2_with fail
  refine (show Calls Try.prog 15 #[.pointer (some ⟨p, 0, none⟩), .string ⟨[104, 101, 108, 108, 111].toArray⟩] _ (PPost W R p 65536 (.int .i64 5) ⟨false, false, false, false, [104, 101, 108, 108, 111], [], 0, 0⟩) from Arrive_any ([104, 101, 108, 108, 111]) (by decide) h1).mono ?_
  rintro e w2 ⟨rfl, h2⟩
  go_wp2_with fail
  refine (show Calls Try.prog 22 #[.pointer (some ⟨p, 0, none⟩), .int .i64 2] _ (PPost W R p 65536 (.int .i64 0) ⟨false, false, false, false, [104, 101, 108, 108, 111], [], 2, 0⟩) from Cut_any (2)  h2).mono ?_
  rintro e w3 ⟨rfl, h3⟩
  go_wp2_with fail
  refine (show Calls Try.prog 23 #[.pointer (some ⟨p, 0, none⟩)] _ (PPost W R p 65536 (.tuple #[.string ⟨[104, 101].toArray⟩, .bool false]) ⟨false, false, false, false, [108, 108, 111], [], 2, 0⟩) from Read_any   h3).mono ?_
  rintro e w4 ⟨rfl, h4⟩
  go_wp2_with fail
  refine (show Calls Try.prog 24 #[.pointer (some ⟨p, 0, none⟩)] _ (PPost W R p 65536 (.tuple #[]) ⟨false, true, false, false, [108, 108, 111], [], 2, 0⟩) from Finish_any   h4).mono ?_
  rintro e w5 ⟨rfl, h5⟩
  go_wp2_with fail
  refine (show Calls Try.prog 15 #[.pointer (some ⟨p, 0, none⟩), .string ⟨[120].toArray⟩] _ (PPost W R p 65536 (.int .i64 0) ⟨false, true, false, false, [108, 108, 111], [], 2, 0⟩) from Arrive_any ([120]) (by decide) h5).mono ?_
  rintro e w6 ⟨rfl, h6⟩
  go_wp2_with fail
  refine (show Calls Try.prog 23 #[.pointer (some ⟨p, 0, none⟩)] _ (PPost W R p 65536 (.tuple #[.string ⟨[108, 108].toArray⟩, .bool false]) ⟨false, true, false, false, [111], [], 2, 0⟩) from Read_any   h6).mono ?_
  rintro e w7 ⟨rfl, h7⟩
  go_wp2_with fail
  refine (show Calls Try.prog 23 #[.pointer (some ⟨p, 0, none⟩)] _ (PPost W R p 65536 (.tuple #[.string ⟨[111].toArray⟩, .bool false]) ⟨false, true, false, false, [], [], 2, 0⟩) from Read_any   h7).mono ?_
  rintro e w8 ⟨rfl, h8⟩
  go_wp2_with fail
  refine (show Calls Try.prog 23 #[.pointer (some ⟨p, 0, none⟩)] _ (PPost W R p 65536 (.tuple #[.string ⟨[].toArray⟩, .bool true]) ⟨false, true, false, false, [], [], 2, 0⟩) from Read_any   h8).mono ?_
  rintro e w9 ⟨rfl, h9⟩
  go_wp2_with fail
  refine (show Calls Try.prog 23 #[.pointer (some ⟨p, 0, none⟩)] _ (PPost W R p 65536 (.tuple #[.string ⟨[].toArray⟩, .bool true]) ⟨false, true, false, false, [], [], 2, 0⟩) from Read_any   h9).mono ?_
  rintro e w10 ⟨rfl, h10⟩
  go_wp2_with fail
  refine (show Calls Try.prog 25 #[.pointer (some ⟨p, 0, none⟩)] _ (PPost W R p 65536 (.tuple #[]) ⟨false, true, true, false, [], [], 2, 0⟩) from End_any   h10).mono ?_
  rintro e w11 ⟨rfl, h11⟩
  go_wp2_with fail
  refine (show Calls Try.prog 23 #[.pointer (some ⟨p, 0, none⟩)] _ (PPost W R p 65536 (.tuple #[.string ⟨[].toArray⟩, .bool false]) ⟨false, true, true, false, [], [], 2, 0⟩) from Read_any   h11).mono ?_
  rintro e w12 ⟨rfl, h12⟩
  go_wp2_with fail
  refine (awake_any h12).mono ?_
  rintro e w13 ⟨rfl, h13⟩
  go_wp2_with fail
  refine (show Calls Try.prog 26 #[.pointer (some ⟨p, 0, none⟩)] _ (Quiet _ (.bool true)) from Ended_any h13).mono ?_
  rintro e w14 hq
  have h14 := h13.quiet hq
  obtain ⟨rfl, -⟩ := hq
  go_wp2_with fail
  refine (show Calls Try.prog 27 #[.pointer (some ⟨p, 0, none⟩)] _ (Quiet _ (.bool true)) from Finished_any h14).mono ?_
  rintro e w15 hq
  have h15 := h14.quiet hq
  obtain ⟨rfl, -⟩ := hq
  go_wp2_with fail
  refine (show Calls Try.prog 22 #[.pointer (some ⟨p, 0, none⟩), .int .i64 (-1)] _ (PPost W R p 65536 (.int .i64 1) ⟨false, true, true, false, [], [], 2, 0⟩) from Cut_any (-1)  h15).mono ?_
  rintro e w16 ⟨rfl, h16⟩
  go_wp2_with fail
  refine (show Calls Try.prog 22 #[.pointer (some ⟨p, 0, none⟩), .int .i64 65537] _ (PPost W R p 65536 (.int .i64 1) ⟨false, true, true, false, [], [], 2, 0⟩) from Cut_any (65537)  h16).mono ?_
  rintro e w17 ⟨rfl, h17⟩
  go_wp2_with fail
  refine (show Calls Try.prog 16 #[.pointer (some ⟨p, 0, none⟩), .int .i64 (-1)] _ (PPost W R p 65536 (.int .i64 1) ⟨false, true, true, false, [], [], 2, 0⟩) from Break_any (-1)  h17).mono ?_
  rintro e w18 ⟨rfl, h18⟩
  go_wp2
  go_ret
  exact ⟨rfl, h18.right⟩
theorem known_walk (W : World) : Calls Try.prog 5 #[] W (Law W emp) := known_any (St.start W)

end Go.Proofs.Ytldobldhmodjlaa.PipeLaw
