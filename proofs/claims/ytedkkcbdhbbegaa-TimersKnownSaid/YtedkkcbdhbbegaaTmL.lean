import Derived.Test.YtedkkcbdhbbegaaTmK3
namespace Go.Proofs.Ytedkkcbdhbbegaa.TmL
open Go Go.RowKit Go.Proofs Go.Proofs.Ytedkkcbdhbbegaa.Sep Go.Proofs.Ytedkkcbdhbbegaa.Reg Go.Proofs.Ytedkkcbdhbbegaa.Frame Go.Proofs.Ytedkkcbdhbbegaa.Slc Go.Proofs.Ytedkkcbdhbbegaa.TmP Go.Proofs.Ytedkkcbdhbbegaa.TmQ Go.Proofs.Ytedkkcbdhbbegaa.Rng Go.Proofs.Ytedkkcbdhbbegaa.RngA Go.Proofs.Ytedkkcbdhbbegaa.RngB Go.Proofs.Ytedkkcbdhbbegaa.TmI Go.Proofs.Ytedkkcbdhbbegaa.TmI2 Go.Proofs.Ytedkkcbdhbbegaa.TmI3 Go.Proofs.Ytedkkcbdhbbegaa.TmI4 Go.Proofs.Ytedkkcbdhbbegaa.TmI5 Go.Proofs.Ytedkkcbdhbbegaa.TmI6 Go.Proofs.Ytedkkcbdhbbegaa.TmI7 Go.Proofs.Ytedkkcbdhbbegaa.TmI8 Go.Proofs.Ytedkkcbdhbbegaa.TmK Go.Proofs.Ytedkkcbdhbbegaa.TmK2 Go.Proofs.Ytedkkcbdhbbegaa.TmK3

theorem Cancel_at (p : Nat) (v : Value) (l : List (κ × Int)) (k : κ) (b : Bool) (hb : decide (k ∈ keysOf l) = b) (r : List (κ × Int)) (hr : cancelP k l = r) {W w : World} {R : Asn} (h : St W w (star (IsT p v l) R)) :
    Calls Try.prog 14 #[.pointer (some ⟨p, 0, none⟩), .int .i64 k] w (CPost W p b r R) := hr ▸ Cancel_any p v l k b hb h

set_option maxRecDepth 100000 in
set_option maxHeartbeats 16000000 in
theorem known_any (w : World) : Calls Try.prog 7 #[] w (Makes w (.bool true)) := by
  have HN := Lib.hid (New_any (St.start w))
  go_enter Try.func7, Try.ntmps7
  go_wp2_with fail
  refine HN.out.mono ?_
  rintro e w1 ⟨p, v, rfl, h1⟩
  have H := Lib.hid (Set_at p v [] (srt_of (by decide)) (by decide) 7 5 (by decide) (by decide) [(7, 5)] (by decide) h1)
  go_wp2_with fail
  refine H.out.mono ?_
  rintro e w2 ⟨rfl, v2, h2⟩
  have H := Lib.hid (Set_at p v2 [(7, 5)] (srt_of (by decide)) (by decide) 3 5 (by decide) (by decide) [(3, 5), (7, 5)] (by decide) h2)
  go_wp2_with fail
  refine H.out.mono ?_
  rintro e w3 ⟨rfl, v3, h3⟩
  have H := Lib.hid (Set_at p v3 [(3, 5), (7, 5)] (srt_of (by decide)) (by decide) 9 2 (by decide) (by decide) [(9, 2), (3, 5), (7, 5)] (by decide) h3)
  go_wp2_with fail
  refine H.out.mono ?_
  rintro e w4 ⟨rfl, v4, h4⟩
  have H := Lib.hid (Set_bad p 1 (-1) (.inl (by decide)) w4)
  go_wp2_with fail
  refine H.out.mono ?_
  rintro e w5 hq
  have h5 := h4.makes hq
  obtain ⟨rfl, -⟩ := hq
  have H := Lib.hid (Set_bad p 1 4611686018427387905 (.inr (by decide)) w5)
  go_wp2_with fail
  refine H.out.mono ?_
  rintro e w6 hq
  have h6 := h5.makes hq
  obtain ⟨rfl, -⟩ := hq
  have H := Lib.hid (keys_at p v4 [(9, 2), (3, 5), (7, 5)] (by decide) (by decide) 1 (by decide) (by decide) [9] (by decide) 1 rfl h6)
  go_wp2_with fail
  refine H.out.mono ?_
  rintro e w7 ⟨ra, rc, rfl, h7⟩
  have h8 := h7.alloc (.cells #[.int .i64 9] 3)
  have H := Lib.hid (sameI_any [9] [9] _ ra 1 rc _ 1 1 rfl rfl (by decide) h8.right.rowSl (lit_sl rfl (by decide) h8))
  go_wp2_with fail
  refine H.out.mono ?_
  rintro e w9 hq
  have h9 := (h8.makes hq).right.right
  obtain ⟨rfl, -⟩ := hq
  have H := Lib.hid (Pop_at p v4 [(9, 2), (3, 5), (7, 5)] (srt_of (by decide)) (by decide) 4 [9] [(3, 5), (7, 5)] (by decide) (by decide) h9)
  go_wp2_with fail
  refine H.out.mono ?_
  rintro e w10 ⟨ra, rc, v5, rfl, h10⟩
  have h11 := h10.alloc (.cells #[.int .i64 9] 3)
  have H := Lib.hid (sameI_any [9] [9] _ ra 1 rc _ 1 1 rfl rfl (by decide) h11.right.rowSl (lit_sl rfl (by decide) h11))
  go_wp2_with fail
  refine H.out.mono ?_
  rintro e w12 hq
  have h12 := (h11.makes hq).right.right
  obtain ⟨rfl, -⟩ := hq
  have H := Lib.hid (keys_at p v5 [(3, 5), (7, 5)] (by decide) (by decide) 9 (by decide) (by decide) [3, 7] (by decide) 9 rfl h12)
  go_wp2_with fail
  refine H.out.mono ?_
  rintro e w13 ⟨ra, rc, rfl, h13⟩
  have h14 := h13.alloc (.cells #[.int .i64 3, .int .i64 7] 3)
  have H := Lib.hid (sameI_any [3, 7] [3, 7] _ ra 2 rc _ 2 2 rfl rfl (by decide) h14.right.rowSl (lit_sl rfl (by decide) h14))
  go_wp2_with fail
  refine H.out.mono ?_
  rintro e w15 hq
  have h15 := (h14.makes hq).right.right
  obtain ⟨rfl, -⟩ := hq
  have H := Lib.hid (Due_any p v5 [(3, 5), (7, 5)] 7 (.tuple #[.int .i64 5, .bool true]) (by rfl) h15)
  go_wp2_with fail
  refine H.out.mono ?_
  rintro e w16 hq
  have h16 := h15.makes hq
  obtain ⟨rfl, -⟩ := hq
  have H := Lib.hid (Set_at p v5 [(3, 5), (7, 5)] (srt_of (by decide)) (by decide) 7 8 (by decide) (by decide) [(3, 5), (7, 8)] (by decide) h16)
  go_wp2_with fail
  refine H.out.mono ?_
  rintro e w17 ⟨rfl, v6, h17⟩
  have H := Lib.hid (Pop_at p v6 [(3, 5), (7, 8)] (srt_of (by decide)) (by decide) 5 [3] [(7, 8)] (by decide) (by decide) h17)
  go_wp2_with fail
  refine H.out.mono ?_
  rintro e w18 ⟨ra, rc, v7, rfl, h18⟩
  have h19 := h18.alloc (.cells #[.int .i64 3] 3)
  have H := Lib.hid (sameI_any [3] [3] _ ra 1 rc _ 1 1 rfl rfl (by decide) h19.right.rowSl (lit_sl rfl (by decide) h19))
  go_wp2_with fail
  refine H.out.mono ?_
  rintro e w20 hq
  have h20 := (h19.makes hq).right.right
  obtain ⟨rfl, -⟩ := hq
  have H := Lib.hid (Cancel_at p v7 [(7, 8)] 7 true (by decide) [] (by decide) h20)
  go_wp2_with fail
  refine H.out.mono ?_
  rintro e w21 ⟨rfl, v8, h21⟩
  have H := Lib.hid (Cancel_at p v8 [] 7 false (by decide) [] (by decide) h21)
  go_wp2_with fail
  refine H.out.mono ?_
  rintro e w22 ⟨rfl, v9, h22⟩
  have H := Lib.hid (Len_any p v9 [] h22)
  go_wp2_with fail
  refine H.out.mono ?_
  rintro e w23 hq
  have h23 := h22.makes hq
  obtain ⟨rfl, -⟩ := hq
  have H := Lib.hid (Pop_at p v9 [] (srt_of (by decide)) (by decide) 4611686018427387904 [] [] (by decide) (by decide) h23)
  go_wp2_with fail
  refine H.out.mono ?_
  rintro e w24 ⟨ra, rc, v10, rfl, h24⟩
  have h24b := h24.below
  have H := Lib.hid (wakes_any w24)
  go_wp2_with fail
  refine H.out.mono ?_
  rintro e w99 hq
  have h99 := h24.makes hq
  obtain ⟨rfl, -⟩ := hq
  go_wp2
  go_ret
  exact ⟨rfl, h99.below⟩
end Go.Proofs.Ytedkkcbdhbbegaa.TmL
