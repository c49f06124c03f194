import Derived.Test.YtnfnplbojdmfmaaDoorPathA
namespace Go.Proofs.YtnfnplbojdmfmaaDoor.PathK
open Go Go.RowKit Go.Proofs Go.Proofs.YtnfnplbojdmfmaaDoor.Sep Go.Proofs.YtnfnplbojdmfmaaDoor.Reg Go.Proofs.YtnfnplbojdmfmaaDoor.Frame Go.Proofs.YtnfnplbojdmfmaaDoor.PathP Go.Proofs.YtnfnplbojdmfmaaDoor.PathQ Go.Proofs.YtnfnplbojdmfmaaDoor.PathW Go.Proofs.YtnfnplbojdmfmaaDoor.PathL Go.Proofs.YtnfnplbojdmfmaaDoor.PathM Go.Proofs.YtnfnplbojdmfmaaDoor.PathT Go.Proofs.YtnfnplbojdmfmaaDoor.PathS Go.Proofs.YtnfnplbojdmfmaaDoor.PathSp Go.Proofs.YtnfnplbojdmfmaaDoor.PathJ Go.Proofs.YtnfnplbojdmfmaaDoor.PathA

set_option maxRecDepth 100000 in
set_option maxHeartbeats 4000000 in
theorem known_walk {W : World} (hm : MaxLen W) : Calls Tryd.prog 3 #[] W (Law W emp) := by
  have HS := St.start W
  go_enter Tryd.func3, Tryd.ntmps3
  have hs1 : segs [47] = some [[]] := by decide +kernel
  have H1 := Lib.hid (pSplit_any [47] W (by decide) (hm.st HS))
  rw [hs1] at H1
  clear hs1
  go_wp2_with fail
  refine H1.out.mono ?_
  rintro e w1 ⟨a1, c1, rfl, hq⟩
  have h1 := St.compR HS hq
  clear hq
  have hs2 : segs [47, 37, 52, 49] = some [[65]] := by decide +kernel
  have H2 := Lib.hid (pSplit_any [47, 37, 52, 49] w1 (by decide) (hm.st h1))
  rw [hs2] at H2
  clear hs2
  go_wp2_with fail
  refine H2.out.mono ?_
  rintro e w2 ⟨a2, c2, rfl, hq⟩
  have h2 := St.compR h1 hq
  clear hq
  have hs3 : segs [47, 97, 47, 46, 46, 47, 98] = none := by decide +kernel
  have H3 := Lib.hid (pSplit_any [47, 97, 47, 46, 46, 47, 98] w2 (by decide) (hm.st h2))
  rw [hs3] at H3
  clear hs3
  go_wp2_with fail
  refine H3.out.mono ?_
  rintro e w3 ⟨rfl, hq⟩
  have h3 := h2.past hq
  clear hq
  have hs4 : segs [47, 37, 50, 101, 37, 50, 69] = none := by decide +kernel
  have H4 := Lib.hid (pSplit_any [47, 37, 50, 101, 37, 50, 69] w3 (by decide) (hm.st h3))
  rw [hs4] at H4
  clear hs4
  go_wp2_with fail
  refine H4.out.mono ?_
  rintro e w4 ⟨rfl, hq⟩
  have h4 := h3.past hq
  clear hq
  have hs5 : segs [47, 97, 37, 50, 102, 98] = none := by decide +kernel
  have H5 := Lib.hid (pSplit_any [47, 97, 37, 50, 102, 98] w4 (by decide) (hm.st h4))
  rw [hs5] at H5
  clear hs5
  go_wp2_with fail
  refine H5.out.mono ?_
  rintro e w5 ⟨rfl, hq⟩
  have h5 := h4.past hq
  clear hq
  have hs6 : segs [97] = none := by decide +kernel
  have H6 := Lib.hid (pSplit_any [97] w5 (by decide) (hm.st h5))
  rw [hs6] at H6
  clear hs6
  go_wp2_with fail
  refine H6.out.mono ?_
  rintro e w6 ⟨rfl, hq⟩
  have h6 := h5.past hq
  clear hq
  have hs7 : segs [47, 97, 63, 98] = none := by decide +kernel
  have H7 := Lib.hid (pSplit_any [47, 97, 63, 98] w6 (by decide) (hm.st h6))
  rw [hs7] at H7
  clear hs7
  go_wp2_with fail
  refine H7.out.mono ?_
  rintro e w7 ⟨rfl, hq⟩
  have h7 := h6.past hq
  clear hq
  have hj8 : join [] = none := by decide +kernel
  have H8 := Lib.hid (pJoin_any [] _ none 0 0 rfl (by decide) (Sl.nil w7 1) (by decide))
  rw [joinV_none hj8] at H8
  clear hj8
  go_wp2_with fail
  refine H8.out.mono ?_
  rintro e w8 hq
  have h8 := h7.makes hq
  obtain ⟨rfl, -⟩ := hq
  have h9 := lit_sl h8 [[46, 46]] (by decide)
  have hj10 : join [[46, 46]] = none := by decide +kernel
  have H10 := Lib.hid (pJoin_any [[46, 46]] _ _ 1 1 rfl (by decide) h9.rowSl (by decide))
  rw [joinV_none hj10] at H10
  clear hj10
  go_wp2_with fail
  refine H10.out.mono ?_
  rintro e w10 hq
  have h10 := h9.makes hq
  obtain ⟨rfl, -⟩ := hq
  go_wp2_with fail
  refine (awake_any w10 (hm.st h10)).mono ?_
  rintro e w11 hq
  have h11 := h10.makes hq
  obtain ⟨rfl, -⟩ := hq
  have h12 := lit_sl h11 [[]] (by decide)
  have H13 := Lib.hid ((same_any [[]] [[]] _ a1 1 c1 _ 1 1 rfl rfl (by decide) h12.right.right.right.rowSl h12.rowSl).mono fun e w h => h.eq (v := .bool true) (by rw [decide_eq_true rfl]))
  go_wp2_with fail
  refine H13.out.mono ?_
  rintro e w13 hq
  have h13 := h12.makes hq
  obtain ⟨rfl, -⟩ := hq
  have h14 := lit_sl h13 [[65]] (by decide)
  have H15 := Lib.hid ((same_any [[65]] [[65]] _ a2 1 c2 _ 1 1 rfl rfl (by decide) h14.right.right.right.rowSl h14.rowSl).mono fun e w h => h.eq (v := .bool true) (by rw [decide_eq_true rfl]))
  go_wp2_with fail
  refine H15.out.mono ?_
  rintro e w15 hq
  have h15 := h14.makes hq
  obtain ⟨rfl, -⟩ := hq
  go_wp2
  go_ret
  exact ⟨rfl, h15.forget⟩

end Go.Proofs.YtnfnplbojdmfmaaDoor.PathK
