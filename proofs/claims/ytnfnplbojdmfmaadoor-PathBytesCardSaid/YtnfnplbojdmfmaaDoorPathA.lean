import Derived.Test.YtnfnplbojdmfmaaDoorPathJ
namespace Go.Proofs.YtnfnplbojdmfmaaDoor.PathA
open Go Go.RowKit Go.Proofs Go.Proofs.YtnfnplbojdmfmaaDoor.Sep Go.Proofs.YtnfnplbojdmfmaaDoor.Reg Go.Proofs.YtnfnplbojdmfmaaDoor.Frame Go.Proofs.YtnfnplbojdmfmaaDoor.PathP Go.Proofs.YtnfnplbojdmfmaaDoor.PathQ Go.Proofs.YtnfnplbojdmfmaaDoor.PathW Go.Proofs.YtnfnplbojdmfmaaDoor.PathL Go.Proofs.YtnfnplbojdmfmaaDoor.PathM Go.Proofs.YtnfnplbojdmfmaaDoor.PathT Go.Proofs.YtnfnplbojdmfmaaDoor.PathS Go.Proofs.YtnfnplbojdmfmaaDoor.PathSp Go.Proofs.YtnfnplbojdmfmaaDoor.PathJ

set_option maxRecDepth 100000 in
set_option maxHeartbeats 1600000 in
theorem same_any (l1 l2 : List (List UInt8)) (w : World) (a1 : Option Addr) (n1 c1 : Nat) (a2 : Option Addr) (n2 c2 : Nat) (h1n : l1.length = n1) (h2n : l2.length = n2) (hb1 : n1 ≤ 100000000)
    (hsl1 : Sl w 1 (.slice a1 n1 c1) n1 (strsV l1)) (hsl2 : Sl w 1 (.slice a2 n2 c2) n2 (strsV l2)) :
    Calls Tryd.prog 12 #[.slice a1 n1 c1, .slice a2 n2 c2] w (Makes w (.bool (decide (l1 = l2)))) := by
  have h0 := St.start w
  have H1 := Lib.hid h1n
  have H2 := Lib.hid h2n
  have HS1 := Lib.hid hsl1
  have HS2 := Lib.hid hsl2
  clear h1n h2n hsl1 hsl2
  by_cases hne : n1 = n2
  · have HNE := Lib.hid hne
    have hneb : ((n1 : Int) != (n2 : Int)) = false := by simp; omega
    clear hne
    go_enter Tryd.func12, Tryd.ntmps12
    go_wp2_with fail
    clear hneb
    go_loopw [5] (fun iv wr => ∃ i : Nat, i ≤ n1 ∧ iv = .int .i64 i ∧ l1.take i = l2.take i ∧ St w wr emp) (fun iv _ => n1 - (intOf iv).toNat)
    case atStart => exact ⟨0, by omega, rfl, rfl, h0⟩
    case round =>
      obtain ⟨i, hi, rfl, htk, hS⟩ := hrel
      have HT := Lib.hid htk
      clear htk
      by_cases hi2 : i < n1
      · obtain ⟨x, hx⟩ : ∃ x, l1[i]? = some x := ⟨_, List.getElem?_eq_getElem (by rw [H1.out]; exact hi2)⟩
        obtain ⟨y, hy⟩ : ∃ y, l2[i]? = some y := ⟨_, List.getElem?_eq_getElem (by rw [H2.out, ← HNE.out]; exact hi2)⟩
        obtain ⟨ab, ao, rfl, hcl⟩ := strs_at HS1.out hx
        obtain ⟨bb, bo, rfl, hdl⟩ := strs_at HS2.out hy
        have hc0 := hcl _ _ hS
        have hd0 := hdl _ _ hS
        have hi3 : i < n2 := by have := HNE.out; omega
        have HX := Lib.hid hx
        have HY := Lib.hid hy
        clear hcl hdl hx hy
        cases hxy : (x == y)
        · have HF : Hid (l1 ≠ l2) := Lib.hid (by
            rintro rfl
            have := HX.out.symm.trans HY.out
            simp at this; subst this
            simp at hxy)
          go_wp2_with fail
          refine wp_region_canon [0, 1, 2, 3, 4, 5, 6, 7, 8] (by kernel_rfl) (by kernel_rfl) ?_
          simp only [pickOps, nthOp]
          go_wp2_with fail
          simp only [Only]
          go_wp2_with fail
          go_ret
          exact ⟨by rw [decide_eq_false HF.out]; rfl, (hS.drewN 1).below⟩
        · have hxe : x = y := by simpa using hxy
          subst hxe
          clear hxy
          go_wp2_with fail
          refine wp_region_canon [0, 1, 2, 3, 4, 5, 6, 7, 8] (by kernel_rfl) (by kernel_rfl) ?_
          simp only [pickOps, nthOp]
          go_wp2_with fail
          simp only [Only]
          go_wp2_with fail
          exact ⟨⟨i + 1, by omega, by go_num, by rw [List.take_add_one, List.take_add_one, HT.out, HX.out, HY.out], hS.drewN 1⟩, by simp [intOf]; omega⟩
      · obtain rfl : i = n1 := by omega
        have HF : Hid (l1 = l2) := Lib.hid (by
          have h := HT.out
          rw [List.take_of_length_le (by rw [H1.out]; omega), List.take_of_length_le (by rw [H2.out, ← HNE.out]; omega)] at h
          exact h)
        go_wp2
        go_ret
        exact ⟨by rw [decide_eq_true HF.out]; rfl, hS.below⟩
  · have hneb : ((n1 : Int) != (n2 : Int)) = true := by simp; omega
    have HF : Hid (l1 ≠ l2) := Lib.hid (by rintro rfl; exact hne (H1.out.symm.trans H2.out))
    clear hne
    go_enter Tryd.func12, Tryd.ntmps12
    go_wp2
    go_ret
    exact ⟨by rw [decide_eq_false HF.out]; rfl, Below.refl _ _⟩

theorem St.compR {W w w' : World} {A R : Asn} (h : St W w R) (k : St w w' (star A emp)) : St W w' (star A R) := (St.comp h k).eq (by rw [star_emp])
/-- A slice literal of texts. -/
theorem lit_sl {W w : World} {A : Asn} (h : St W w A) (l : List (List UInt8)) (hl : l.length ≤ maxLen) : St W (w.alloc (.cells (strsV l).toArray 9 (0, 0))) (star (Row 9 1 (.slice (some ⟨w.heap.size, 0, none⟩) l.length l.length) l.length (strsV l)) A) :=
  St.mkRow (h.alloc _) (Nat.le_refl _) hl (by simp [strsV]) (by rw [Nat.mul_one]; exact List.take_of_length_le (by simp [strsV]))

set_option maxRecDepth 100000 in
set_option maxHeartbeats 1600000 in
theorem awake_any (W : World) (hm : MaxLen W) : Calls Tryd.prog 11 #[] W (Makes W (.bool true)) := by
  have HS := St.start W
  have hsg : segs [47, 97, 47, 98, 37, 50, 48, 99, 47] = some [[97], [98, 32, 99], []] := by decide +kernel
  have hjn : join [[97], [98, 32, 99], []] = some [47, 97, 47, 98, 37, 50, 48, 99, 47] := by decide +kernel
  have H1 := Lib.hid (pSplit_any [47, 97, 47, 98, 37, 50, 48, 99, 47] W (by decide) hm)
  rw [hsg] at H1
  have HJ := Lib.hid (joinV_some hjn)
  clear hsg hjn
  go_enter Tryd.func11, Tryd.ntmps11
  go_wp2_with fail
  refine H1.out.mono ?_
  rintro e w1 ⟨a, c, rfl, hq⟩
  have h1 := St.compR HS hq
  have h2 := lit_sl h1 [[97], [98, 32, 99], []] (by decide)
  have HL2 := Lib.hid h2.rowSl
  have HC := Lib.hid (pJoin_any [[97], [98, 32, 99], []] _ _ 3 3 rfl (by decide) HL2.out (by decide))
  rw [HJ.out] at HC
  go_wp2_with fail
  refine HC.out.mono ?_
  rintro e w2 hq
  have h3 := h2.makes hq
  obtain ⟨rfl, -⟩ := hq
  have h4 := lit_sl h3 [[97], [98, 32, 99], []] (by decide)
  have HD := Lib.hid ((same_any [[97], [98, 32, 99], []] [[97], [98, 32, 99], []] _ a 3 c _ 3 3 rfl rfl (by decide) h4.right.right.rowSl h4.rowSl).mono fun e w h => h.eq (v := .bool true) (by rw [decide_eq_true rfl]))
  go_wp2_with fail
  refine HD.out.mono ?_
  rintro e w5 hq
  have h5 := h4.makes hq
  obtain ⟨rfl, -⟩ := hq
  go_wp2
  go_ret
  exact ⟨rfl, h5.below⟩

end Go.Proofs.YtnfnplbojdmfmaaDoor.PathA
