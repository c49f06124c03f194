import Derived.Test.YthaekkmnglhinaaTpT
namespace Go.Proofs.Ythaekkmnglhinaa.TpU
open Go Go.RowKit Go.Proofs Go.Proofs.Ythaekkmnglhinaa.Sep Go.Proofs.Ythaekkmnglhinaa.Frame Go.Proofs.Ythaekkmnglhinaa.TpP Go.Proofs.Ythaekkmnglhinaa.TpA Go.Proofs.Ythaekkmnglhinaa.TpI Go.Proofs.Ythaekkmnglhinaa.TpL Go.Proofs.Ythaekkmnglhinaa.TpM Go.Proofs.Ythaekkmnglhinaa.TpN Go.Proofs.Ythaekkmnglhinaa.TpO Go.Proofs.Ythaekkmnglhinaa.TpS Go.Proofs.Ythaekkmnglhinaa.TpT

set_option maxRecDepth 100000 in
set_option maxHeartbeats 8000000 in
theorem wakes_any (w : World) : Calls Try.prog 9 #[] w (Makes w (.bool true)) := by
  go_enter Try.func9, Try.ntmps9
  have H := Lib.hid (New_any (St.start w))
  go_wp2_with fail
  refine H.out.mono ?_
  rintro e w0 ⟨p, rfl, h0⟩
  have H := Lib.hid (Add_at p [] (by decide) [97] 1 [([97], 1)] 0 (by decide) (by decide) h0)
  go_wp2_with fail
  refine H.out.mono ?_
  rintro e w1 ⟨rfl, h1⟩
  have H := Lib.hid (Add_at p [([97], 1)] (by decide) [97] 2 [([97], 1), ([97], 2)] 0 (by decide) (by decide) h1)
  go_wp2_with fail
  refine H.out.mono ?_
  rintro e w2 ⟨rfl, h2⟩
  have H := Lib.hid (Add_at p [([97], 1), ([97], 2)] (by decide) [97] 1 [([97], 1), ([97], 2)] 5 (by decide) (by decide) h2)
  go_wp2_with fail
  refine H.out.mono ?_
  rintro e w3 ⟨rfl, h3⟩
  have H := Lib.hid (of_any p [([97], 1), ([97], 2)] (by decide) [97] 9 (by decide) (by decide) [1, 2] (by decide) 9 rfl h3)
  go_wp2_with fail
  refine H.out.mono ?_
  rintro e w4 ⟨a4, c4, rfl, h4⟩
  have h5 := h4.alloc (.cells #[.int .i64 1, .int .i64 2] 3)
  have H := Lib.hid (sameI_any [1, 2] [1, 2] _ a4 2 c4 _ 2 2 rfl rfl (by decide) h5.right.rowSl (litI rfl (by decide) h5))
  go_wp2_with fail
  refine H.out.mono ?_
  rintro e w6 hq
  have h6 := (h5.makes hq).right.right
  obtain ⟨rfl, -⟩ := hq
  have H := Lib.hid (Drop_at p [([97], 1), ([97], 2)] (by decide) [97] 1 [([97], 2)] true (by decide) (by decide) h6)
  go_wp2_with fail
  refine H.out.mono ?_
  rintro e w7 ⟨rfl, h7⟩
  have H := Lib.hid (Drop_at p [([97], 2)] (by decide) [97] 1 [([97], 2)] false (by decide) (by decide) h7)
  go_wp2_with fail
  refine H.out.mono ?_
  rintro e w8 ⟨rfl, h8⟩
  have H := Lib.hid (Topics_at p [([97], 2)] (by decide) (by decide) [[97]] (topics_eq (by decide) (fun x => by simp [topsP])) h8)
  go_wp2_with fail
  refine H.out.mono ?_
  rintro e w9 ⟨a9, c9, rfl, h9⟩
  have h10 := h9.alloc (.cells #[.string ⟨#[97]⟩] 9)
  have H := Lib.hid (sameS_any [[97]] [[97]] _ a9 1 c9 _ 1 1 rfl rfl (by decide) h10.right.rowSl (litS rfl (by decide) h10))
  go_wp2_with fail
  refine H.out.mono ?_
  rintro e w11 hq
  have h11 := (h10.makes hq).right.right
  obtain ⟨rfl, -⟩ := hq
  go_wp2
  go_ret
  exact ⟨rfl, h11.below⟩

set_option maxRecDepth 100000 in
set_option maxHeartbeats 8000000 in
theorem known_any (w : World) : Calls Try.prog 8 #[] w (Makes w (.bool true)) := by
  go_enter Try.func8, Try.ntmps8
  have H := Lib.hid (New_any (St.start w))
  go_wp2_with fail
  refine H.out.mono ?_
  rintro e w0 ⟨p, rfl, h0⟩
  have H := Lib.hid (Add_at p [] (by decide) [97] 1 [([97], 1)] 0 (by decide) (by decide) h0)
  go_wp2_with fail
  refine H.out.mono ?_
  rintro e w1 ⟨rfl, h1⟩
  have H := Lib.hid (Add_at p [([97], 1)] (by decide) [97] 2 [([97], 1), ([97], 2)] 0 (by decide) (by decide) h1)
  go_wp2_with fail
  refine H.out.mono ?_
  rintro e w2 ⟨rfl, h2⟩
  have H := Lib.hid (Add_at p [([97], 1), ([97], 2)] (by decide) [97] 1 [([97], 1), ([97], 2)] 5 (by decide) (by decide) h2)
  go_wp2_with fail
  refine H.out.mono ?_
  rintro e w3 ⟨rfl, h3⟩
  have H := Lib.hid (Add_at p [([97], 1), ([97], 2)] (by decide) [98] 2 [([97], 1), ([97], 2), ([98], 2)] 0 (by decide) (by decide) h3)
  go_wp2_with fail
  refine H.out.mono ?_
  rintro e w4 ⟨rfl, h4⟩
  have H := Lib.hid (of_any p [([97], 1), ([97], 2), ([98], 2)] (by decide) [97] 9 (by decide) (by decide) [1, 2] (by decide) 9 rfl h4)
  go_wp2_with fail
  refine H.out.mono ?_
  rintro e w5 ⟨a5, c5, rfl, h5⟩
  have h6 := h5.alloc (.cells #[.int .i64 1, .int .i64 2] 3)
  have H := Lib.hid (sameI_any [1, 2] [1, 2] _ a5 2 c5 _ 2 2 rfl rfl (by decide) h6.right.rowSl (litI rfl (by decide) h6))
  go_wp2_with fail
  refine H.out.mono ?_
  rintro e w7 hq
  have h7 := (h6.makes hq).right.right
  obtain ⟨rfl, -⟩ := hq
  have H := Lib.hid (of_any p [([97], 1), ([97], 2), ([98], 2)] (by decide) [97] 1 (by decide) (by decide) [1] (by decide) 1 rfl h7)
  go_wp2_with fail
  refine H.out.mono ?_
  rintro e w8 ⟨a8, c8, rfl, h8⟩
  have h9 := h8.alloc (.cells #[.int .i64 1] 3)
  have H := Lib.hid (sameI_any [1] [1] _ a8 1 c8 _ 1 1 rfl rfl (by decide) h9.right.rowSl (litI rfl (by decide) h9))
  go_wp2_with fail
  refine H.out.mono ?_
  rintro e w10 hq
  have h10 := (h9.makes hq).right.right
  obtain ⟨rfl, -⟩ := hq
  have H := Lib.hid (of_any p [([97], 1), ([97], 2), ([98], 2)] (by decide) [99] 9 (by decide) (by decide) [] (by decide) 9 rfl h10)
  go_wp2_with fail
  refine H.out.mono ?_
  rintro e w11 ⟨a11, c11, rfl, h11⟩
  have h11 := h11.right
  have H := Lib.hid (By_at p [([97], 1), ([97], 2), ([98], 2)] (by decide) 2 [[97], [98]] (by decide) h11)
  go_wp2_with fail
  refine H.out.mono ?_
  rintro e w12 ⟨a12, c12, rfl, h12⟩
  have h13 := h12.alloc (.cells #[.string ⟨#[97]⟩, .string ⟨#[98]⟩] 9)
  have H := Lib.hid (sameS_any [[97], [98]] [[97], [98]] _ a12 2 c12 _ 2 2 rfl rfl (by decide) h13.right.rowSl (litS rfl (by decide) h13))
  go_wp2_with fail
  refine H.out.mono ?_
  rintro e w14 hq
  have h14 := (h13.makes hq).right.right
  obtain ⟨rfl, -⟩ := hq
  have H := Lib.hid (Topics_at p [([97], 1), ([97], 2), ([98], 2)] (by decide) (by decide) [[97], [98]] (topics_eq (by decide) (fun x => by simp [topsP])) h14)
  go_wp2_with fail
  refine H.out.mono ?_
  rintro e w15 ⟨a15, c15, rfl, h15⟩
  have h16 := h15.alloc (.cells #[.string ⟨#[97]⟩, .string ⟨#[98]⟩] 9)
  have H := Lib.hid (sameS_any [[97], [98]] [[97], [98]] _ a15 2 c15 _ 2 2 rfl rfl (by decide) h16.right.rowSl (litS rfl (by decide) h16))
  go_wp2_with fail
  refine H.out.mono ?_
  rintro e w17 hq
  have h17 := (h16.makes hq).right.right
  obtain ⟨rfl, -⟩ := hq
  have H := Lib.hid (Drop_at p [([97], 1), ([97], 2), ([98], 2)] (by decide) [97] 1 [([97], 2), ([98], 2)] true (by decide) (by decide) h17)
  go_wp2_with fail
  refine H.out.mono ?_
  rintro e w18 ⟨rfl, h18⟩
  have H := Lib.hid (Drop_at p [([97], 2), ([98], 2)] (by decide) [97] 1 [([97], 2), ([98], 2)] false (by decide) (by decide) h18)
  go_wp2_with fail
  refine H.out.mono ?_
  rintro e w19 ⟨rfl, h19⟩
  have H := Lib.hid (Add_at p [([97], 2), ([98], 2)] (by decide) [97] 1 [([97], 2), ([98], 2), ([97], 1)] 0 (by decide) (by decide) h19)
  go_wp2_with fail
  refine H.out.mono ?_
  rintro e w20 ⟨rfl, h20⟩
  have H := Lib.hid (of_any p [([97], 2), ([98], 2), ([97], 1)] (by decide) [97] 9 (by decide) (by decide) [2, 1] (by decide) 9 rfl h20)
  go_wp2_with fail
  refine H.out.mono ?_
  rintro e w21 ⟨a21, c21, rfl, h21⟩
  have h22 := h21.alloc (.cells #[.int .i64 2, .int .i64 1] 3)
  have H := Lib.hid (sameI_any [2, 1] [2, 1] _ a21 2 c21 _ 2 2 rfl rfl (by decide) h22.right.rowSl (litI rfl (by decide) h22))
  go_wp2_with fail
  refine H.out.mono ?_
  rintro e w23 hq
  have h23 := (h22.makes hq).right.right
  obtain ⟨rfl, -⟩ := hq
  have H := Lib.hid (DropAll_at p [([97], 2), ([98], 2), ([97], 1)] (by decide) 2 [[97], [98]] [([97], 1)] (by decide) (by decide) h23)
  go_wp2_with fail
  refine H.out.mono ?_
  rintro e w24 ⟨a24, c24, rfl, h24⟩
  have h25 := h24.alloc (.cells #[.string ⟨#[97]⟩, .string ⟨#[98]⟩] 9)
  have H := Lib.hid (sameS_any [[97], [98]] [[97], [98]] _ a24 2 c24 _ 2 2 rfl rfl (by decide) h25.right.rowSl (litS rfl (by decide) h25))
  go_wp2_with fail
  refine H.out.mono ?_
  rintro e w26 hq
  have h26 := (h25.makes hq).right.right
  obtain ⟨rfl, -⟩ := hq
  have H := Lib.hid (Topics_at p [([97], 1)] (by decide) (by decide) [[97]] (topics_eq (by decide) (fun x => by simp [topsP])) h26)
  go_wp2_with fail
  refine H.out.mono ?_
  rintro e w27 ⟨a27, c27, rfl, h27⟩
  have h28 := h27.alloc (.cells #[.string ⟨#[97]⟩] 9)
  have H := Lib.hid (sameS_any [[97]] [[97]] _ a27 1 c27 _ 1 1 rfl rfl (by decide) h28.right.rowSl (litS rfl (by decide) h28))
  go_wp2_with fail
  refine H.out.mono ?_
  rintro e w29 hq
  have h29 := (h28.makes hq).right.right
  obtain ⟨rfl, -⟩ := hq
  have H := Lib.hid (DropAll_at p [([97], 1)] (by decide) 2 [] [([97], 1)] (by decide) (by decide) h29)
  go_wp2_with fail
  refine H.out.mono ?_
  rintro e w30 ⟨a30, c30, rfl, h30⟩
  have h30 := h30.right
  have H := Lib.hid (Hears_at p [([97], 1)] (by decide) [97] 1 true (by decide) h30)
  go_wp2_with fail
  refine H.out.mono ?_
  rintro e w31 ⟨rfl, h31⟩
  have H := Lib.hid (Hears_at p [([97], 1)] (by decide) [97] 2 false (by decide) h31)
  go_wp2_with fail
  refine H.out.mono ?_
  rintro e w32 ⟨rfl, h32⟩
  have H := Lib.hid (wakes_any w32)
  go_wp2_with fail
  refine H.out.mono ?_
  rintro e w33 hq
  have h33 := h32.makes hq
  obtain ⟨rfl, -⟩ := hq
  go_wp2
  go_ret
  exact ⟨rfl, h33.below⟩
end Go.Proofs.Ythaekkmnglhinaa.TpU
