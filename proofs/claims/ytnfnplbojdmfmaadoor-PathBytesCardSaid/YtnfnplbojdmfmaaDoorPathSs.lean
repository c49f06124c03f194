import Derived.Test.YtnfnplbojdmfmaaDoorPathA
import Derived.Test.YtnfnplbojdmfmaaDoorPathRs
namespace Go.Proofs.YtnfnplbojdmfmaaDoor.PathSs
open Go Go.RowKit Go.Proofs Go.Proofs.YtnfnplbojdmfmaaDoor.Sep Go.Proofs.YtnfnplbojdmfmaaDoor.Reg Go.Proofs.YtnfnplbojdmfmaaDoor.Frame Go.Proofs.YtnfnplbojdmfmaaDoor.PathP Go.Proofs.YtnfnplbojdmfmaaDoor.PathQ Go.Proofs.YtnfnplbojdmfmaaDoor.PathW Go.Proofs.YtnfnplbojdmfmaaDoor.PathL Go.Proofs.YtnfnplbojdmfmaaDoor.PathM Go.Proofs.YtnfnplbojdmfmaaDoor.PathT Go.Proofs.YtnfnplbojdmfmaaDoor.PathS Go.Proofs.YtnfnplbojdmfmaaDoor.PathSp Go.Proofs.YtnfnplbojdmfmaaDoor.PathJ Go.Proofs.YtnfnplbojdmfmaaDoor.PathA Go.Proofs.YtnfnplbojdmfmaaDoor.PathR Go.Proofs.YtnfnplbojdmfmaaDoor.PathRt Go.Proofs.YtnfnplbojdmfmaaDoor.PathRs

theorem seg_count {s : List UInt8} {m : List (List UInt8)} (h : segs s = some m) : m.length ≤ 513 := by
  obtain ⟨⟨h1, h2, h3⟩, rfl, h5⟩ := segs_some h
  have h4 := parts_count (s.drop 1)
  have h6 := List.count_le_length (a := (47 : UInt8)) (l := s.drop 1)
  simp at h4 h6 ⊢; omega

set_option maxRecDepth 100000 in
set_option maxHeartbeats 8000000 in
theorem splits_any (s : List UInt8) (W : World) (hm : MaxLen W) :
    Calls Tryd.prog 4 #[.string ⟨s.toArray⟩] W (Makes W (.bool true)) := by
  have HS := St.start W
  go_enter Tryd.func4, Tryd.ntmps4
  go_wp2_with fail
  refine (awake_any W hm).mono ?_
  rintro e w1 hq
  have h1 := HS.makes hq
  obtain ⟨rfl, -⟩ := hq
  by_cases hs : 2000 < s.length
  · go_wp2
    go_ret
    exact ⟨rfl, h1.below⟩
  have HA := Lib.hid (pSplit_any s w1 (by omega) (hm.st h1))
  have HB := Lib.hid fun w => rSplit_any s w (by omega)
  cases ha : segs s with
  | none =>
    rw [ha] at HA HB
    clear ha
    go_wp2_with fail
    refine HA.out.mono ?_
    rintro e w2 ⟨rfl, hq⟩
    have h2 := h1.past hq
    clear hq
    go_wp2_with fail
    refine (HB.out _).mono ?_
    rintro e w3 ⟨rfl, hq⟩
    have h3 := h2.past hq
    clear hq
    have h3n : St W w3 (star (Row 9 1 (.slice none 0 0) 0 (strsV [])) emp) := h3.nilRow
    have HSm := Lib.hid ((same_any [] [] w3 none 0 0 none 0 0 rfl rfl (by omega) h3n.rowSl h3n.rowSl).mono fun e w h => h.eq (v := .bool true) (by rw [decide_eq_true rfl]))
    go_wp2_with fail
    refine HSm.out.mono ?_
    rintro e w4 hq
    have h4 := h3.makes hq
    obtain ⟨rfl, -⟩ := hq
    go_wp2
    go_ret
    exact ⟨rfl, h4.below⟩
  | some m =>
    have hml := seg_count ha
    rw [ha] at HA HB
    clear ha
    go_wp2_with fail
    refine HA.out.mono ?_
    rintro e w2 ⟨a2, c2, rfl, hq⟩
    have h2 := St.compR h1 hq
    clear hq
    go_wp2_with fail
    refine (HB.out _).mono ?_
    rintro e w3 ⟨a3, c3, rfl, hq⟩
    have h3 := St.compR h2 hq
    clear hq
    have HSm := Lib.hid ((same_any m m w3 a2 m.length c2 a3 m.length c3 rfl rfl (by omega) h3.right.rowSl h3.rowSl).mono fun e w h => h.eq (v := .bool true) (by rw [decide_eq_true rfl]))
    go_wp2_with fail
    refine HSm.out.mono ?_
    rintro e w4 hq
    have h4 := h3.makes hq
    obtain ⟨rfl, -⟩ := hq
    go_wp2
    go_ret
    exact ⟨rfl, h4.below⟩

theorem splits_walk (s : List UInt8) (_ : (⟨s.toArray⟩ : ByteArray).size ≤ maxLen) {W : World} (hm : MaxLen W) :
    Calls Tryd.prog 4 #[.string ⟨s.toArray⟩] W (Law W emp) :=
  (splits_any s W hm).mono fun _ _ hq => ⟨hq.1, (St.start W).makes hq⟩

end Go.Proofs.YtnfnplbojdmfmaaDoor.PathSs
