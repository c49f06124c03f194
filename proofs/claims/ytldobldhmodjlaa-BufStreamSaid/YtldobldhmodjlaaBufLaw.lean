import Derived.Test.YtldobldhmodjlaaBufFind
namespace Go.Proofs.Ytldobldhmodjlaa.BufLaw
open Go Go.RowKit Go.Proofs Go.Proofs.Ytldobldhmodjlaa.Sep Go.Proofs.Ytldobldhmodjlaa.Reg Go.Proofs.Ytldobldhmodjlaa.Buf Go.Proofs.Ytldobldhmodjlaa.Frame Go.Proofs.Ytldobldhmodjlaa.BufFind

def BPost (W : World) (R : Asn) (b max : Nat) (l : List UInt8) (v : Value) (e : Ending) (w' : World) : Prop :=
  e = .returned v ∧ St W w' (star (BufA b true max l) R)

set_option maxRecDepth 100000 in
set_option maxHeartbeats 400000 in
theorem awake_any {W w : World} {R : Asn} (hm : MaxLen W) (h : St W w R) : Calls Try.prog 35 #[] w (Law W R) := by
  go_enter Try.func35, Try.ntmps35
  go_wp2_with fail
  refine (Buf.New_St 5 (by decide) h).mono ?_
  rintro e w1 ⟨b, rfl, h1⟩
  go_wp2_with fail
  refine (show Calls Try.prog 32 #[.pointer (some ⟨b, 0, none⟩), .string ⟨[97, 98, 99].toArray⟩] _ (BPost W R b 5 [97, 98, 99] (.int .i64 3)) from Buf.Write_any ([97, 98, 99]) (by decide) h1).mono ?_
  rintro e w2 ⟨rfl, h2⟩
  go_wp2_with fail
  refine (show Calls Try.prog 32 #[.pointer (some ⟨b, 0, none⟩), .string ⟨[100, 101, 102, 103].toArray⟩] _ (BPost W R b 5 [97, 98, 99, 100, 101] (.int .i64 2)) from Buf.Write_any ([100, 101, 102, 103]) (by decide) h2).mono ?_
  rintro e w3 ⟨rfl, h3⟩
  go_wp2_with fail
  refine (show Calls Try.prog 40 #[.pointer (some ⟨b, 0, none⟩), .int .i64 2] _ (Quiet _ (.string ⟨[97, 98].toArray⟩)) from Buf.Peek_any (2) h3).mono ?_
  rintro e w4 hq
  have h4 := h3.quiet hq
  obtain ⟨rfl, -⟩ := hq
  go_wp2_with fail
  refine (show Calls Try.prog 34 #[.pointer (some ⟨b, 0, none⟩), .int .i64 4] _ (BPost W R b 5 [101] (.string ⟨[97, 98, 99, 100].toArray⟩)) from Buf.Read_any (4)  h4).mono ?_
  rintro e w5 ⟨rfl, h5⟩
  go_wp2_with fail
  refine (show Calls Try.prog 36 #[.pointer (some ⟨b, 0, none⟩)] _ (Quiet _ (.int .i64 4)) from Buf.Room_any  h5).mono ?_
  rintro e w6 hq
  have h6 := h5.quiet hq
  obtain ⟨rfl, -⟩ := hq
  go_wp2_with fail
  refine (show Calls Try.prog 33 #[.pointer (some ⟨b, 0, none⟩), .string ⟨[101].toArray⟩] _ (BPost W R b 5 [101] (.int .i64 0)) from BufFind.Find_any hm [101] (by decide) h6).mono ?_
  rintro e w7 ⟨rfl, h7⟩
  go_wp2_with fail
  refine (show Calls Try.prog 43 #[.pointer (some ⟨b, 0, none⟩)] _ (Quiet _ (.int .i64 1)) from Buf.Len_any  h7).mono ?_
  rintro e w8 hq
  have h8 := h7.quiet hq
  obtain ⟨rfl, -⟩ := hq
  go_wp2
  go_ret
  exact ⟨rfl, h8.right⟩

set_option maxRecDepth 100000 in
set_option maxHeartbeats 1600000 in
theorem known_any {W w : World} {R : Asn} (hm : MaxLen W) (h : St W w R) : Calls Try.prog 8 #[] w (Law W R) := by
  go_enter Try.func8, Try.ntmps8
  go_wp2_with fail
  refine (Buf.New_St 5 (by decide) h).mono ?_
  rintro e w1 ⟨b, rfl, h1⟩
  go_wp2_with fail
  refine (show Calls Try.prog 32 #[.pointer (some ⟨b, 0, none⟩), .string ⟨[97, 98, 99, 100, 101].toArray⟩] _ (BPost W R b 5 [97, 98, 99, 100, 101] (.int .i64 5)) from Buf.Write_any ([97, 98, 99, 100, 101]) (by decide) h1).mono ?_
  rintro e w2 ⟨rfl, h2⟩
  go_wp2_with fail
  refine (show Calls Try.prog 33 #[.pointer (some ⟨b, 0, none⟩), .string ⟨[].toArray⟩] _ (BPost W R b 5 [97, 98, 99, 100, 101] (.int .i64 0)) from BufFind.Find_any hm [] (by decide) h2).mono ?_
  rintro e w3 ⟨rfl, h3⟩
  go_wp2_with fail
  refine (show Calls Try.prog 33 #[.pointer (some ⟨b, 0, none⟩), .string ⟨[100, 101].toArray⟩] _ (BPost W R b 5 [97, 98, 99, 100, 101] (.int .i64 3)) from BufFind.Find_any hm [100, 101] (by decide) h3).mono ?_
  rintro e w4 ⟨rfl, h4⟩
  go_wp2_with fail
  refine (show Calls Try.prog 34 #[.pointer (some ⟨b, 0, none⟩), .int .i64 4] _ (BPost W R b 5 [101] (.string ⟨[97, 98, 99, 100].toArray⟩)) from Buf.Read_any (4)  h4).mono ?_
  rintro e w5 ⟨rfl, h5⟩
  go_wp2_with fail
  refine (Buf.New_St 0 (by decide) h5).mono ?_
  rintro e w6 ⟨f, rfl, h6⟩
  go_wp2_with fail
  refine (awake_any hm h6).mono ?_
  rintro e w7 ⟨rfl, h7⟩
  replace h7 := h7.swap
  go_wp2_with fail
  refine (show Calls Try.prog 33 #[.pointer (some ⟨b, 0, none⟩), .string ⟨[97].toArray⟩] _ (BPost W (star (BufA f true 0 []) R) b 5 [101] (.int .i64 (-1))) from BufFind.Find_any hm [97] (by decide) h7).mono ?_
  rintro e w8 ⟨rfl, h8⟩
  go_wp2_with fail
  refine (show Calls Try.prog 34 #[.pointer (some ⟨b, 0, none⟩), .int .i64 (-1)] _ (BPost W (star (BufA f true 0 []) R) b 5 [101] (.string ⟨[].toArray⟩)) from Buf.Read_any (-1)  h8).mono ?_
  rintro e w9 ⟨rfl, h9⟩
  go_wp2_with fail
  refine (show Calls Try.prog 34 #[.pointer (some ⟨b, 0, none⟩), .int .i64 0] _ (BPost W (star (BufA f true 0 []) R) b 5 [101] (.string ⟨[].toArray⟩)) from Buf.Read_any (0)  h9).mono ?_
  rintro e w10 ⟨rfl, h10⟩
  go_wp2_with fail
  refine (show Calls Try.prog 34 #[.pointer (some ⟨b, 0, none⟩), .int .i64 9] _ (BPost W (star (BufA f true 0 []) R) b 5 [] (.string ⟨[101].toArray⟩)) from Buf.Read_any (9)  h10).mono ?_
  rintro e w11 ⟨rfl, h11⟩
  go_wp2_with fail
  refine (show Calls Try.prog 34 #[.pointer (some ⟨b, 0, none⟩), .int .i64 1] _ (BPost W (star (BufA f true 0 []) R) b 5 [] (.string ⟨[].toArray⟩)) from Buf.Read_any (1)  h11).mono ?_
  rintro e w12 ⟨rfl, h12⟩
  replace h12 := h12.swap
  go_wp2_with fail
  refine (show Calls Try.prog 32 #[.pointer (some ⟨f, 0, none⟩), .string ⟨[120].toArray⟩] _ (BPost W (star (BufA b true 5 []) R) f 0 [] (.int .i64 0)) from Buf.Write_any ([120]) (by decide) h12).mono ?_
  rintro e w13 ⟨rfl, h13⟩
  go_wp2_with fail
  refine (show Calls Try.prog 36 #[.pointer (some ⟨f, 0, none⟩)] _ (Quiet _ (.int .i64 0)) from Buf.Room_any  h13).mono ?_
  rintro e w14 hq
  have h14 := h13.quiet hq
  obtain ⟨rfl, -⟩ := hq
  go_wp2_with fail
  refine (show Calls Try.prog 33 #[.pointer (some ⟨f, 0, none⟩), .string ⟨[].toArray⟩] _ (BPost W (star (BufA b true 5 []) R) f 0 [] (.int .i64 0)) from BufFind.Find_any hm [] (by decide) h14).mono ?_
  rintro e w15 ⟨rfl, h15⟩
  go_wp2
  go_ret
  exact ⟨rfl, h15.right.right⟩

theorem known_walk (W : World) (hm : MaxLen W) : Calls Try.prog 8 #[] W (Law W emp) := known_any hm (St.start W)

end Go.Proofs.Ytldobldhmodjlaa.BufLaw
