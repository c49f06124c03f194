import Derived.Test.YtnfnplbojdmfmaaDoorPathB
import Derived.Test.YtnfnplbojdmfmaaDoorPathRj
namespace Go.Proofs.YtnfnplbojdmfmaaDoor.PathJs
open Go Go.RowKit Go.Proofs Go.Proofs.YtnfnplbojdmfmaaDoor.Sep Go.Proofs.YtnfnplbojdmfmaaDoor.Reg Go.Proofs.YtnfnplbojdmfmaaDoor.Frame Go.Proofs.YtnfnplbojdmfmaaDoor.PathP Go.Proofs.YtnfnplbojdmfmaaDoor.PathQ Go.Proofs.YtnfnplbojdmfmaaDoor.PathW Go.Proofs.YtnfnplbojdmfmaaDoor.PathL Go.Proofs.YtnfnplbojdmfmaaDoor.PathM Go.Proofs.YtnfnplbojdmfmaaDoor.PathT Go.Proofs.YtnfnplbojdmfmaaDoor.PathS Go.Proofs.YtnfnplbojdmfmaaDoor.PathSp Go.Proofs.YtnfnplbojdmfmaaDoor.PathJ Go.Proofs.YtnfnplbojdmfmaaDoor.PathA Go.Proofs.YtnfnplbojdmfmaaDoor.PathB Go.Proofs.YtnfnplbojdmfmaaDoor.PathR Go.Proofs.YtnfnplbojdmfmaaDoor.PathRj

set_option maxRecDepth 100000 in
set_option maxHeartbeats 8000000 in
theorem joins_any (a : Option Addr) (len cap : Nat) (xs : List (List UInt8)) (hlen : xs.length = len) (W : World) (hsl0 : Sl W 1 (.slice a len cap) len (strsV xs)) (hm : MaxLen W) :
    Calls Tryd.prog 5 #[.slice a len cap] W (Makes W (.bool true)) := by
  have hcap : cap ≤ 9223372036854775807 := by obtain ⟨_, _, _, e, _, h2, _⟩ := hsl0; cases e; simpa [maxLen] using h2
  have hlc : len ≤ cap := by obtain ⟨_, _, _, e, h1, _⟩ := hsl0; cases e; exact h1
  have HSL := Lib.hid hsl0
  have HLEN := Lib.hid hlen
  clear hsl0 hlen
  have HS := St.start W
  go_enter Tryd.func5, Tryd.ntmps5
  go_wp2_with fail
  refine (awake_any W hm).mono ?_
  rintro e w1 hq
  have h1 := HS.makes hq
  obtain ⟨rfl, -⟩ := hq
  go_wp2_with fail
  go_loop [3, 4] (fun nv iv => ∃ i : Nat, i ≤ len ∧ i ≤ 601 ∧ iv = .int .i64 i ∧ nv = .int .i64 (sumMin 5001 (xs.take i) : Nat)) (fun _ iv => 601 - (intOf iv).toNat)
  case atStart => exact ⟨0, by omega, by omega, rfl, rfl⟩
  case round =>
    obtain ⟨i, hi, hi101, rfl, rfl⟩ := hrel
    have hsb : sumMin 5001 (xs.take i) ≤ 5001 * 601 := by
      have := sumMin_le 5001 (xs.take i)
      have h2 : (xs.take i).length ≤ i := List.length_take_le _ _
      omega
    by_cases hgo : i < len ∧ i ≤ 600
    · obtain ⟨hgo1, hgo2⟩ := hgo
      obtain ⟨x, hx⟩ : ∃ x, xs[i]? = some x := ⟨_, List.getElem?_eq_getElem (by rw [HLEN.out]; exact hgo1)⟩
      obtain ⟨ab, ao, rfl, hcl⟩ := strs_at HSL.out hx
      have hc0 := hcl _ _ h1
      have HSN := Lib.hid (sumMin_snoc 5001 xs i x hx)
      obtain ⟨mn, hmn⟩ : ∃ mn, min x.length 5001 = mn := ⟨_, rfl⟩
      have hmnI : min (x.length : Int) 5001 = (mn : Int) := by omega
      have hmn1 : mn ≤ 5001 := by omega
      rw [hmn] at HSN
      clear hcl hx hmn
      generalize sumMin 5001 (xs.take i) = q at *
      go_wp2_with fail
      exact ⟨⟨i + 1, by omega, by omega, by go_num, by rw [HSN.out]; go_num⟩, by simp [intOf]; omega⟩
    · by_cases hl100 : len ≤ 600
      · obtain rfl : i = len := by omega
        have htk : xs.take i = xs := List.take_of_length_le (by rw [HLEN.out]; omega)
        rw [htk] at hsb ⊢
        by_cases hsum : 5000 < sumMin 5001 xs
        · generalize sumMin 5001 xs = q at *
          clear htk
          go_wp2
          go_ret
          exact ⟨rfl, h1.below⟩
        have hel : ∀ x ∈ xs, x.length ≤ 1000000 := by
          intro x hx
          have := sumMin_mem 5001 xs x hx
          omega
        generalize sumMin 5001 xs = q at *
        have HSL1 := Lib.hid (sl_later HSL.out h1)
        have HA := Lib.hid (pJoin_any xs w1 a i cap HLEN.out (by omega) HSL1.out hel)
        have HB := Lib.hid fun w h => rJoin_any xs w a i cap HLEN.out (by omega) h hel
        clear htk hel
        cases hj : join xs with
        | none =>
          rw [joinV_none hj] at HA HB
          clear hj
          go_wp2_with fail
          refine HA.out.mono ?_
          rintro e w2 hq
          have h2 := h1.makes hq
          obtain ⟨rfl, -⟩ := hq
          go_wp2_with fail
          refine (HB.out _ (sl_later HSL.out h2)).mono ?_
          rintro e w3 hq
          have h3 := h2.makes hq
          obtain ⟨rfl, -⟩ := hq
          go_wp2
          go_ret
          exact ⟨rfl, h3.below⟩
        | some p =>
          rw [joinV_some hj] at HA HB
          clear hj
          go_wp2_with fail
          refine HA.out.mono ?_
          rintro e w2 hq
          have h2 := h1.makes hq
          obtain ⟨rfl, -⟩ := hq
          go_wp2_with fail
          refine (HB.out _ (sl_later HSL.out h2)).mono ?_
          rintro e w3 hq
          have h3 := h2.makes hq
          obtain ⟨rfl, -⟩ := hq
          go_wp2
          go_ret
          exact ⟨rfl, h3.below⟩
      · go_wp2
        all_goals
          go_ret
          exact ⟨rfl, h1.below⟩

theorem joins_walk {W : World} (a : Option Addr) (len cap : Nat) (xs : List (List UInt8)) (hlen : xs.length = len) (hsl0 : Sl W 1 (.slice a len cap) len (xs.flatMap Str.E)) (_ : ∀ x ∈ xs, Str.Ok x) (hm : MaxLen W) :
    Calls Tryd.prog 5 #[.slice a len cap] W (Law W emp) := by
  rw [strsV_E] at hsl0
  exact (joins_any a len cap xs hlen W hsl0 hm).mono fun _ _ hq => ⟨hq.1, (St.start W).makes hq⟩

end Go.Proofs.YtnfnplbojdmfmaaDoor.PathJs
