import Derived.Test.YtnfnplbojdmfmaaDoorPathSs
import Derived.Test.YtnfnplbojdmfmaaDoorPathJs
namespace Go.Proofs.YtnfnplbojdmfmaaDoor.PathBy
open Go Go.RowKit Go.Proofs Go.Proofs.YtnfnplbojdmfmaaDoor.Sep Go.Proofs.YtnfnplbojdmfmaaDoor.Reg Go.Proofs.YtnfnplbojdmfmaaDoor.Frame Go.Proofs.YtnfnplbojdmfmaaDoor.PathP Go.Proofs.YtnfnplbojdmfmaaDoor.PathQ Go.Proofs.YtnfnplbojdmfmaaDoor.PathW Go.Proofs.YtnfnplbojdmfmaaDoor.PathL Go.Proofs.YtnfnplbojdmfmaaDoor.PathM Go.Proofs.YtnfnplbojdmfmaaDoor.PathT Go.Proofs.YtnfnplbojdmfmaaDoor.PathS Go.Proofs.YtnfnplbojdmfmaaDoor.PathSp Go.Proofs.YtnfnplbojdmfmaaDoor.PathJ Go.Proofs.YtnfnplbojdmfmaaDoor.PathA Go.Proofs.YtnfnplbojdmfmaaDoor.PathB Go.Proofs.YtnfnplbojdmfmaaDoor.PathSs Go.Proofs.YtnfnplbojdmfmaaDoor.PathJs

/-- string([]byte{x, y}). -/
theorem run_string_two {P : Program} (src dst e : TypeId) (hs : P.underlying src = some (.slice e)) (he : P.underlying e = some (.int .u8)) (hd : P.underlying dst = some .string) (w : World) (k : Nat) (hk : w.heap.size = k) (c d : UInt8) (fr : Nat × Nat) :
    (convert src dst (.slice (some ⟨k, 0, none⟩) 2 2)).run P (w.alloc (.cells #[.int .u8 (c.toNat : Int), .int .u8 (d.toNat : Int)] e fr)) = .ok (.string ⟨[c, d].toArray⟩) (w.alloc (.cells #[.int .u8 (c.toNat : Int), .int .u8 (d.toNat : Int)] e fr)) := by
  subst hk
  have hcell := fun i => cell_of_row (w.alloc (.cells #[.int .u8 (c.toNat : Int), .int .u8 (d.toNat : Int)] e fr)) w.heap.size i #[.int .u8 (c.toNat : Int), .int .u8 (d.toNat : Int)] e fr (by show (w.heap.push _)[w.heap.size]? = _; simp)
  have hl : Sl (w.alloc (.cells #[.int .u8 (c.toNat : Int), .int .u8 (d.toNat : Int)] e fr)) 1 (.slice (some ⟨w.heap.size, 0, none⟩) 2 2) 2 (bytesV [c, d]) := by
    refine ⟨by simp [bytesV], _, _, rfl, Nat.le_refl _, by decide, (by intro h; cases h), fun ad hd i u hu => ?_⟩
    cases hd
    have hadd : (⟨w.heap.size, 0, none⟩ : Addr).add i = ⟨w.heap.size, i, none⟩ := by unfold Addr.add; split <;> simp_all
    rw [hadd, hcell]
    simpa [bytesV] using hu
  exact run_string_of hl src dst e hs he hd

set_option maxRecDepth 100000 in
set_option maxHeartbeats 8000000 in
theorem bytes_any (c d : UInt8) (s : List UInt8) (W : World) (hm : MaxLen W) :
    Calls Tryd.prog 6 #[.int .u8 (c.toNat : Int), .int .u8 (d.toNat : Int), .string ⟨s.toArray⟩] W (Makes W (.bool true)) := by
  have HS := St.start W
  go_enter Tryd.func6, Tryd.ntmps6
  go_wp2_with fail
  refine (awake_any W hm).mono ?_
  rintro e w1 hq
  have h1 := HS.makes hq
  obtain ⟨rfl, -⟩ := hq
  by_cases hs : 200 < s.length
  · go_wp2
    go_ret
    exact ⟨rfl, h1.below⟩
  have hcv := run_string_two (P := Tryd.prog) 31 9 5 Tryd.underlying31 Tryd.underlying5 Tryd.underlying9 w1 w1.heap.size rfl c d (0, 0)
  have h2 := h1.alloc (.cells #[.int .u8 (c.toNat : Int), .int .u8 (d.toNat : Int)] 5 (0, 0))
  have ha1 := run_str_add (P := Tryd.prog) [47] [c, d] (by simp)
  have ha2 := run_str_add (P := Tryd.prog) [47, c, d] [47] (by simp)
  have ha3 := run_str_add (P := Tryd.prog) [47, c, d, 47] s (by simp; omega)
  have ha4 := run_str_add (P := Tryd.prog) [47, 37] [c, d] (by simp)
  have ha5 := run_str_add (P := Tryd.prog) [47, 37, c, d] s (by simp; omega)
  have ha6 := run_str_add (P := Tryd.prog) [47, 46] [c, d] (by simp)
  simp only [List.cons_append, List.nil_append] at ha1 ha2 ha3 ha4 ha5 ha6
  have HA := Lib.hid fun w h => splits_any (47 :: c :: d :: 47 :: s) w h
  have HB := Lib.hid fun w h => splits_any (47 :: 37 :: c :: d :: s) w h
  have HC := Lib.hid fun w h => splits_any [47, 46, c, d] w h
  go_wp2_with fail
  refine (HA.out _ (hm.st h2)).mono ?_
  rintro e w3 hq
  have h3 := h2.makes hq
  obtain ⟨rfl, -⟩ := hq
  go_wp2_with fail
  refine (HB.out _ (hm.st h3)).mono ?_
  rintro e w4 hq
  have h4 := h3.makes hq
  obtain ⟨rfl, -⟩ := hq
  go_wp2_with fail
  refine (HC.out _ (hm.st h4)).mono ?_
  rintro e w5 hq
  have h5 := h4.makes hq
  obtain ⟨rfl, -⟩ := hq
  have h6 := lit_sl h5 [[c, d], s] (by show 2 ≤ _; decide)
  have HD := Lib.hid (joins_any _ 2 2 [[c, d], s] rfl _ h6.rowSl (hm.st h6))
  go_wp2_with fail
  refine HD.out.mono ?_
  rintro e w7 hq
  have h7 := h6.makes hq
  obtain ⟨rfl, -⟩ := hq
  have h8 := lit_sl h7 [[c]] (by show 1 ≤ _; decide)
  have HE := Lib.hid (joins_any _ 1 1 [[c]] rfl _ h8.rowSl (hm.st h8))
  have hsl := run_str_h (P := Tryd.prog) 9 Tryd.underlying9 [c, d] 1 1 rfl (by simp)
  simp only [List.take_succ_cons, List.take_zero] at hsl
  go_wp2_with fail
  refine HE.out.mono ?_
  rintro e w9 hq
  have h9 := h8.makes hq
  obtain ⟨rfl, -⟩ := hq
  go_wp2
  go_ret
  exact ⟨rfl, h9.below⟩

theorem byte_of (a : Int) (h : (Lit.int .u8 a).wf = true) : ∃ c : UInt8, a = (c.toNat : Int) := by
  have : 0 ≤ a ∧ a < 256 := by simp [Lit.wf, IntKind.min, IntKind.max, IntKind.signed, IntKind.bits] at h; omega
  exact ⟨UInt8.ofNat a.toNat, by simp; omega⟩

theorem bytes_walk (a : Int) (ha : (Lit.int .u8 a).wf = true) (b : Int) (hb : (Lit.int .u8 b).wf = true) (s : List UInt8) (_ : (⟨s.toArray⟩ : ByteArray).size ≤ maxLen) {W : World} (hm : MaxLen W) :
    Calls Tryd.prog 6 #[.int .u8 a, .int .u8 b, .string ⟨s.toArray⟩] W (Law W emp) := by
  obtain ⟨c, rfl⟩ := byte_of a ha
  obtain ⟨d, rfl⟩ := byte_of b hb
  exact (bytes_any c d s W hm).mono fun _ _ hq => ⟨hq.1, (St.start W).makes hq⟩

end Go.Proofs.YtnfnplbojdmfmaaDoor.PathBy
