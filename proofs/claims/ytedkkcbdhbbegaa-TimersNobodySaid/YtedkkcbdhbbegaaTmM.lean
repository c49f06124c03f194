import Derived.Test.YtedkkcbdhbbegaaTmN
namespace Go.Proofs.Ytedkkcbdhbbegaa.TmM
open Go Go.RowKit Go.Proofs Go.Proofs.Ytedkkcbdhbbegaa.Sep Go.Proofs.Ytedkkcbdhbbegaa.Frame Go.Proofs.Ytedkkcbdhbbegaa.TmK3 Go.Proofs.Ytedkkcbdhbbegaa.TmN

set_option maxRecDepth 100000 in
set_option maxHeartbeats 8000000 in
theorem nobody_any (k t : Int) (w : World) : Calls Try.prog 4 #[.int .i64 k, .int .i64 t] w (Makes w (.bool true)) := by
  have h1 := St.start w
  have H := Lib.hid (Due_nil k w)
  go_enter Try.func4, Try.ntmps4
  go_wp2_with fail
  refine H.out.mono ?_
  rintro e w1 hq
  have h2 := h1.makes hq
  obtain ⟨rfl, -⟩ := hq
  have H := Lib.hid (Set_nil k t w1)
  go_wp2_with fail
  refine H.out.mono ?_
  rintro e w2 hq
  have h3 := h2.makes hq
  obtain ⟨rfl, -⟩ := hq
  have H := Lib.hid (Cancel_nil k w2)
  go_wp2_with fail
  refine H.out.mono ?_
  rintro e w3 hq
  have h4 := h3.makes hq
  obtain ⟨rfl, -⟩ := hq
  have H := Lib.hid (Pop_nil t w3)
  go_wp2_with fail
  refine H.out.mono ?_
  rintro e w4 hq
  have h5 := h4.makes hq
  obtain ⟨rfl, -⟩ := hq
  have H := Lib.hid (keys_nil w4)
  go_wp2_with fail
  refine H.out.mono ?_
  rintro e w5 hq
  have h6 := h5.makes hq
  obtain ⟨rfl, -⟩ := hq
  have H := Lib.hid (Len_nil w5)
  go_wp2_with fail
  refine H.out.mono ?_
  rintro e w6 hq
  have h7 := h6.makes hq
  obtain ⟨rfl, -⟩ := hq
  have H := Lib.hid (wakes_any w6)
  go_wp2_with fail
  refine H.out.mono ?_
  rintro e w7 hq
  have h8 := h7.makes hq
  obtain ⟨rfl, -⟩ := hq
  go_wp2
  go_ret
  exact ⟨rfl, h8.below⟩
end Go.Proofs.Ytedkkcbdhbbegaa.TmM
