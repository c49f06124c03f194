import Derived.Test.YtdobgebdlbckoaaGreatDoorTpB
namespace Go.Proofs.YtdobgebdlbckoaaGreatDoor.BkS
open Go Go.RowKit Go.Proofs Go.Proofs.YtdobgebdlbckoaaGreatDoor.Sep Go.Proofs.YtdobgebdlbckoaaGreatDoor.Reg Go.Proofs.YtdobgebdlbckoaaGreatDoor.Frame Go.Proofs.YtdobgebdlbckoaaGreatDoor.Strs Go.Proofs.YtdobgebdlbckoaaGreatDoor.TpP Go.Proofs.YtdobgebdlbckoaaGreatDoor.TpA
set_option maxRecDepth 100000 in
set_option maxHeartbeats 1600000 in
theorem sameI_any (l1 l2 : List Int) (w : World) (a1 : Option Addr) (n1 c1 : Nat) (a2 : Option Addr) (n2 c2 : Nat) (h1n : l1.length = n1) (h2n : l2.length = n2) (hb1 : n1 ≤ 100000000)
    (hsl1 : Sl w 1 (.slice a1 n1 c1) n1 (l1.map kI)) (hsl2 : Sl w 1 (.slice a2 n2 c2) n2 (l2.map kI)) :
    Calls Tryz.prog 22 #[.slice a1 n1 c1, .slice a2 n2 c2] w (Makes w (.bool (decide (l1 = l2)))) := by
  have h0 := St.start w
  have H1 := Lib.hid h1n
  have H2 := Lib.hid h2n
  have HS1 := Lib.hid hsl1
  have HS2 := Lib.hid hsl2
  clear h1n h2n hsl1 hsl2
  by_cases hne : n1 = n2
  · have HNE := Lib.hid hne
    have hneb : ((n1 : Int) != (n2 : Int)) = false := by simp; omega
    clear hne
    go_enter Tryz.func22, Tryz.ntmps22
    go_wp2_with fail
    clear hneb
    go_loopw [5] (fun iv wr => ∃ i : Nat, i ≤ n1 ∧ iv = .int .i64 i ∧ l1.take i = l2.take i ∧ St w wr emp) (fun iv _ => n1 - (intOf iv).toNat)
    case atStart => exact ⟨0, by omega, rfl, rfl, h0⟩
    case round =>
      obtain ⟨i, hi, rfl, htk, hS⟩ := hrel
      have HT := Lib.hid htk
      clear htk
      by_cases hi2 : i < n1
      · obtain ⟨x, hx⟩ : ∃ x, l1[i]? = some x := ⟨_, List.getElem?_eq_getElem (by rw [H1.out]; exact hi2)⟩
        obtain ⟨y, hy⟩ : ∃ y, l2[i]? = some y := ⟨_, List.getElem?_eq_getElem (by rw [H2.out, ← HNE.out]; exact hi2)⟩
        obtain ⟨ab, ao, rfl, hcl⟩ := elI HS1.out hx
        obtain ⟨bb, bo, rfl, hdl⟩ := elI HS2.out hy
        have hc0 := hcl _ _ hS
        have hd0 := hdl _ _ hS
        have hi3 : i < n2 := by have := HNE.out; omega
        have HX := Lib.hid hx
        have HY := Lib.hid hy
        clear hcl hdl hx hy
        cases hxy : (x == y)
        · have HF : Hid (l1 ≠ l2) := Lib.hid (by
            rintro rfl
            have := HX.out.symm.trans HY.out
            simp at this; subst this
            simp at hxy)
          go_wp2_with fail
          refine wp_region_canon [0, 1, 2, 3, 4, 5, 6, 7, 8] (by kernel_rfl) (by kernel_rfl) ?_
          simp only [pickOps, nthOp]
          go_wp2_with fail
          simp only [Only]
          go_wp2_with fail
          go_ret
          exact ⟨by rw [decide_eq_false HF.out]; rfl, (hS.drewN 1).below⟩
        · have hxe : x = y := by simpa using hxy
          subst hxe
          clear hxy
          go_wp2_with fail
          refine wp_region_canon [0, 1, 2, 3, 4, 5, 6, 7, 8] (by kernel_rfl) (by kernel_rfl) ?_
          simp only [pickOps, nthOp]
          go_wp2_with fail
          simp only [Only]
          go_wp2_with fail
          exact ⟨⟨i + 1, by omega, by go_num, by rw [List.take_add_one, List.take_add_one, HT.out, HX.out, HY.out], hS.drewN 1⟩, by simp [intOf]; omega⟩
      · obtain rfl : i = n1 := by omega
        have HF : Hid (l1 = l2) := Lib.hid (by
          have h := HT.out
          rw [List.take_of_length_le (by rw [H1.out]; omega), List.take_of_length_le (by rw [H2.out, ← HNE.out]; omega)] at h
          exact h)
        go_wp2
        go_ret
        exact ⟨by rw [decide_eq_true HF.out]; rfl, hS.below⟩
  · have hneb : ((n1 : Int) != (n2 : Int)) = true := by simp; omega
    have HF : Hid (l1 ≠ l2) := Lib.hid (by rintro rfl; exact hne (H1.out.symm.trans H2.out))
    clear hne
    go_enter Tryz.func22, Tryz.ntmps22
    go_wp2
    go_ret
    exact ⟨by rw [decide_eq_false HF.out]; rfl, Below.refl _ _⟩

set_option maxRecDepth 100000 in
set_option maxHeartbeats 1600000 in
theorem sameS_any (l1 l2 : List Tx) (w : World) (a1 : Option Addr) (n1 c1 : Nat) (a2 : Option Addr) (n2 c2 : Nat) (h1n : l1.length = n1) (h2n : l2.length = n2) (hb1 : n1 ≤ 100000000)
    (hsl1 : Sl w 1 (.slice a1 n1 c1) n1 (l1.map kS)) (hsl2 : Sl w 1 (.slice a2 n2 c2) n2 (l2.map kS)) :
    Calls Tryz.prog 16 #[.slice a1 n1 c1, .slice a2 n2 c2] w (Makes w (.bool (decide (l1 = l2)))) := by
  have h0 := St.start w
  have H1 := Lib.hid h1n
  have H2 := Lib.hid h2n
  have HS1 := Lib.hid hsl1
  have HS2 := Lib.hid hsl2
  clear h1n h2n hsl1 hsl2
  by_cases hne : n1 = n2
  · have HNE := Lib.hid hne
    have hneb : ((n1 : Int) != (n2 : Int)) = false := by simp; omega
    clear hne
    go_enter Tryz.func16, Tryz.ntmps16
    go_wp2_with fail
    clear hneb
    go_loopw [5] (fun iv wr => ∃ i : Nat, i ≤ n1 ∧ iv = .int .i64 i ∧ l1.take i = l2.take i ∧ St w wr emp) (fun iv _ => n1 - (intOf iv).toNat)
    case atStart => exact ⟨0, by omega, rfl, rfl, h0⟩
    case round =>
      obtain ⟨i, hi, rfl, htk, hS⟩ := hrel
      have HT := Lib.hid htk
      clear htk
      by_cases hi2 : i < n1
      · obtain ⟨x, hx⟩ : ∃ x, l1[i]? = some x := ⟨_, List.getElem?_eq_getElem (by rw [H1.out]; exact hi2)⟩
        obtain ⟨y, hy⟩ : ∃ y, l2[i]? = some y := ⟨_, List.getElem?_eq_getElem (by rw [H2.out, ← HNE.out]; exact hi2)⟩
        obtain ⟨ab, ao, rfl, hcl⟩ := elS HS1.out hx
        obtain ⟨bb, bo, rfl, hdl⟩ := elS HS2.out hy
        have hc0 := hcl _ _ hS
        have hd0 := hdl _ _ hS
        have hi3 : i < n2 := by have := HNE.out; omega
        have HX := Lib.hid hx
        have HY := Lib.hid hy
        clear hcl hdl hx hy
        cases hxy : (x == y)
        · have HF : Hid (l1 ≠ l2) := Lib.hid (by
            rintro rfl
            have := HX.out.symm.trans HY.out
            simp at this; subst this
            simp at hxy)
          go_wp2_with fail
          refine wp_region_canon [0, 1, 2, 3, 4, 5, 6, 7, 8] (by kernel_rfl) (by kernel_rfl) ?_
          simp only [pickOps, nthOp]
          go_wp2_with fail
          simp only [Only]
          go_wp2_with fail
          go_ret
          exact ⟨by rw [decide_eq_false HF.out]; rfl, (hS.drewN 1).below⟩
        · have hxe : x = y := by simpa using hxy
          subst hxe
          clear hxy
          go_wp2_with fail
          refine wp_region_canon [0, 1, 2, 3, 4, 5, 6, 7, 8] (by kernel_rfl) (by kernel_rfl) ?_
          simp only [pickOps, nthOp]
          go_wp2_with fail
          simp only [Only]
          go_wp2_with fail
          exact ⟨⟨i + 1, by omega, by go_num, by rw [List.take_add_one, List.take_add_one, HT.out, HX.out, HY.out], hS.drewN 1⟩, by simp [intOf]; omega⟩
      · obtain rfl : i = n1 := by omega
        have HF : Hid (l1 = l2) := Lib.hid (by
          have h := HT.out
          rw [List.take_of_length_le (by rw [H1.out]; omega), List.take_of_length_le (by rw [H2.out, ← HNE.out]; omega)] at h
          exact h)
        go_wp2
        go_ret
        exact ⟨by rw [decide_eq_true HF.out]; rfl, hS.below⟩
  · have hneb : ((n1 : Int) != (n2 : Int)) = true := by simp; omega
    have HF : Hid (l1 ≠ l2) := Lib.hid (by rintro rfl; exact hne (H1.out.symm.trans H2.out))
    clear hne
    go_enter Tryz.func16, Tryz.ntmps16
    go_wp2
    go_ret
    exact ⟨by rw [decide_eq_false HF.out]; rfl, Below.refl _ _⟩

end Go.Proofs.YtdobgebdlbckoaaGreatDoor.BkS
