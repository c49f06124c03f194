import Derived.Test.YtnfnplbojdmfmaaDoorPathA
namespace Go.Proofs.YtnfnplbojdmfmaaDoor.PathB
open Go Go.RowKit Go.Proofs Go.Proofs.YtnfnplbojdmfmaaDoor.Sep Go.Proofs.YtnfnplbojdmfmaaDoor.Reg Go.Proofs.YtnfnplbojdmfmaaDoor.Frame Go.Proofs.YtnfnplbojdmfmaaDoor.PathP Go.Proofs.YtnfnplbojdmfmaaDoor.PathQ Go.Proofs.YtnfnplbojdmfmaaDoor.PathW Go.Proofs.YtnfnplbojdmfmaaDoor.PathL Go.Proofs.YtnfnplbojdmfmaaDoor.PathM Go.Proofs.YtnfnplbojdmfmaaDoor.PathT Go.Proofs.YtnfnplbojdmfmaaDoor.PathS Go.Proofs.YtnfnplbojdmfmaaDoor.PathSp Go.Proofs.YtnfnplbojdmfmaaDoor.PathJ Go.Proofs.YtnfnplbojdmfmaaDoor.PathA

theorem segs_small {s : List UInt8} {m : List (List UInt8)} (h : segs s = some m) : m.length ≤ 513 ∧ ∀ x ∈ m, x.length ≤ 512 := by
  obtain ⟨⟨h1, h2, h3⟩, rfl, h5⟩ := segs_some h
  have h4 := parts_count (s.drop 1)
  have h6 := List.count_le_length (a := (47 : UInt8)) (l := s.drop 1)
  have h7 := part_len (s.drop 1)
  refine ⟨by simp at h4 h6 ⊢; omega, ?_⟩
  intro x hx
  obtain ⟨y, hy, rfl⟩ := List.mem_map.1 hx
  have := unpct_len _ y (Nat.le_refl _)
  have := h7 y hy
  simp at this
  omega
set_option maxRecDepth 100000 in
set_option maxHeartbeats 8000000 in
theorem back_walk {W : World} (a : Option Addr) (len cap : Nat) (xs : List (List UInt8)) (hlen : xs.length = len) (hsl0 : Sl W 1 (.slice a len cap) len (xs.flatMap Str.E)) (_ : ∀ x ∈ xs, Str.Ok x) (s : List UInt8) (_ : (⟨s.toArray⟩ : ByteArray).size ≤ maxLen) (hm : MaxLen W) :
    Calls Tryd.prog 7 #[.slice a len cap, .string ⟨s.toArray⟩] W (Law W emp) := by
  have hcap : cap ≤ 9223372036854775807 := by obtain ⟨_, _, _, e, _, h2, _⟩ := hsl0; cases e; simpa [maxLen] using h2
  have hlc : len ≤ cap := by obtain ⟨_, _, _, e, h1, _⟩ := hsl0; cases e; exact h1
  rw [strsV_E] at hsl0
  have HSL := Lib.hid hsl0
  have HLEN := Lib.hid hlen
  clear hsl0 hlen
  have HS := St.start W
  go_enter Tryd.func7, Tryd.ntmps7
  go_wp2_with fail
  refine (awake_any W hm).mono ?_
  rintro e w1 hq
  have h1 := HS.makes hq
  obtain ⟨rfl, -⟩ := hq
  go_wp2_with fail
  go_loop [5, 6] (fun nv iv => ∃ i : Nat, i ≤ len ∧ i ≤ 101 ∧ iv = .int .i64 i ∧ nv = .int .i64 (sumMin 2001 (xs.take i) : Nat)) (fun _ iv => 101 - (intOf iv).toNat)
  case atStart => exact ⟨0, by omega, by omega, rfl, rfl⟩
  case round =>
    obtain ⟨i, hi, hi101, rfl, rfl⟩ := hrel
    have hsb : sumMin 2001 (xs.take i) ≤ 2001 * 101 := by
      have := sumMin_le 2001 (xs.take i)
      have h2 : (xs.take i).length ≤ i := List.length_take_le _ _
      omega
    by_cases hgo : i < len ∧ i ≤ 100
    · obtain ⟨hgo1, hgo2⟩ := hgo
      obtain ⟨x, hx⟩ : ∃ x, xs[i]? = some x := ⟨_, List.getElem?_eq_getElem (by rw [HLEN.out]; exact hgo1)⟩
      obtain ⟨ab, ao, rfl, hcl⟩ := strs_at HSL.out hx
      have hc0 := hcl _ _ h1
      have HSN := Lib.hid (sumMin_snoc 2001 xs i x hx)
      obtain ⟨mn, hmn⟩ : ∃ mn, min x.length 2001 = mn := ⟨_, rfl⟩
      have hmnI : min (x.length : Int) 2001 = (mn : Int) := by omega
      have hmn1 : mn ≤ 2001 := by omega
      rw [hmn] at HSN
      clear hcl hx hmn
      generalize sumMin 2001 (xs.take i) = q at *
      go_wp2_with fail
      exact ⟨⟨i + 1, by omega, by omega, by go_num, by rw [HSN.out]; go_num⟩, by simp [intOf]; omega⟩
    · by_cases hl100 : len ≤ 100
      · obtain rfl : i = len := by omega
        have htk : xs.take i = xs := List.take_of_length_le (by rw [HLEN.out]; omega)
        rw [htk] at hsb ⊢
        by_cases hsum : 2000 < sumMin 2001 xs
        · generalize sumMin 2001 xs = q at *
          clear htk
          go_wp2
          go_ret
          exact ⟨rfl, h1⟩
        by_cases hs : 2000 < s.length
        · generalize sumMin 2001 xs = q at *
          clear htk
          go_wp2
          go_ret
          exact ⟨rfl, h1⟩
        have hel : ∀ x ∈ xs, x.length ≤ 1000000 := by
          intro x hx; have := sumMin_mem 2001 xs x hx; omega
        generalize sumMin 2001 xs = q at *
        have HSL1 := Lib.hid (sl_later HSL.out h1)
        have HJ := Lib.hid (pJoin_any xs w1 a i cap HLEN.out (by omega) HSL1.out hel)
        have HTS := Lib.hid fun w hm => pSplit_any s w (by omega) hm
        clear hel htk
        cases hjn : join xs with
        | none =>
          rw [joinV_none hjn] at HJ
          clear hjn
          go_wp2_with fail
          refine HJ.out.mono ?_
          rintro e w2 hq
          have h2 := h1.makes hq
          obtain ⟨rfl, -⟩ := hq
          cases hsg : segs s with
          | none =>
            have HT2 := Lib.hid (HTS.out w2 (hm.st h2))
            rw [hsg] at HT2
            clear hsg
            go_wp2_with fail
            refine HT2.out.mono ?_
            rintro e w20 ⟨rfl, hq⟩
            have h20 := h2.past hq
            clear hq
            go_wp2
            go_ret
            exact ⟨rfl, h20.forget⟩
          | some m =>
            have HT2 := Lib.hid (HTS.out w2 (hm.st h2))
            rw [hsg] at HT2
            obtain ⟨hml, hmel⟩ := segs_small hsg
            have HSG := Lib.hid hsg
            clear hsg
            go_wp2_with fail
            refine HT2.out.mono ?_
            rintro e w20 ⟨a20, c20, rfl, hq⟩
            have h20 := St.compR h2 hq
            clear hq
            have HJ2 := Lib.hid (pJoin_any m w20 a20 m.length c20 rfl (by omega) h20.rowSl (fun x hx => by have := hmel x hx; omega))
            cases hj : join m with
            | none =>
              rw [joinV_none hj] at HJ2
              have h170 := join_long HSG.out hj
              clear hj hmel
              go_wp2_with fail
              refine HJ2.out.mono ?_
              rintro e w21 hq
              have h21 := h20.makes hq
              obtain ⟨rfl, -⟩ := hq
              go_wp2
              go_ret
              exact ⟨ret_bool (by simp; omega), h21.forget⟩
            | some qq =>
              rw [joinV_some hj] at HJ2
              have hqs := (segs_join hj).1
              have hql := (join_some hj).2.2.1
              have HSQ := Lib.hid fun w hm => pSplit_any qq w (by omega) hm
              rw [hqs] at HSQ
              clear hj hqs hmel
              go_wp2_with fail
              refine HJ2.out.mono ?_
              rintro e w21 hq
              have h21 := h20.makes hq
              obtain ⟨rfl, -⟩ := hq
              go_wp2_with fail
              refine (HSQ.out w21 (hm.st h21)).mono ?_
              rintro e w22 ⟨a22, c22, rfl, hq⟩
              have h22 := St.compR h21 hq
              clear hq
              have HSm := Lib.hid ((same_any m m _ a22 m.length c22 a20 m.length c20 rfl rfl (by omega) h22.rowSl h22.right.rowSl).mono fun e w h => h.eq (v := .bool true) (by rw [decide_eq_true rfl]))
              go_wp2_with fail
              refine HSm.out.mono ?_
              rintro e w23 hq
              have h23 := h22.makes hq
              obtain ⟨rfl, -⟩ := hq
              go_wp2
              go_ret
              exact ⟨rfl, h23.forget⟩
        | some p =>
          rw [joinV_some hjn] at HJ
          have hps := segs_join hjn
          have hpl := (join_some hjn).2.2.1
          have HSP := Lib.hid fun w hm => pSplit_any p w (by omega) hm
          rw [hps.1] at HSP
          have HTG := Lib.hid fun w hm => Target_any p w (by omega) hm
          rw [targV_some hps.2] at HTG
          clear hjn hps
          go_wp2_with fail
          refine HJ.out.mono ?_
          rintro e w2 hq
          have h2 := h1.makes hq
          obtain ⟨rfl, -⟩ := hq
          go_wp2_with fail
          refine (HSP.out w2 (hm.st h2)).mono ?_
          rintro e w3 ⟨a3, c3, rfl, hq⟩
          have h3 := St.compR h2 hq
          clear hq
          go_wp2_with fail
          refine (HTG.out w3 (hm.st h3)).mono ?_
          rintro e w4 hq
          have h4 := h3.makes hq
          obtain ⟨rfl, -⟩ := hq
          have HSm := Lib.hid ((same_any xs xs _ a i cap a3 xs.length c3 HLEN.out rfl (by omega) (sl_later HSL.out h4) h4.rowSl).mono fun e w h => h.eq (v := .bool true) (by rw [decide_eq_true rfl]))
          go_wp2_with fail
          refine HSm.out.mono ?_
          rintro e w5 hq
          have h5 := h4.makes hq
          obtain ⟨rfl, -⟩ := hq
          cases hsg : segs s with
          | none =>
            have HT2 := Lib.hid (HTS.out w5 (hm.st h5))
            rw [hsg] at HT2
            clear hsg
            go_wp2_with fail
            refine HT2.out.mono ?_
            rintro e w20 ⟨rfl, hq⟩
            have h20 := h5.past hq
            clear hq
            go_wp2
            go_ret
            exact ⟨rfl, h20.forget⟩
          | some m =>
            have HT2 := Lib.hid (HTS.out w5 (hm.st h5))
            rw [hsg] at HT2
            obtain ⟨hml, hmel⟩ := segs_small hsg
            have HSG := Lib.hid hsg
            clear hsg
            go_wp2_with fail
            refine HT2.out.mono ?_
            rintro e w20 ⟨a20, c20, rfl, hq⟩
            have h20 := St.compR h5 hq
            clear hq
            have HJ2 := Lib.hid (pJoin_any m w20 a20 m.length c20 rfl (by omega) h20.rowSl (fun x hx => by have := hmel x hx; omega))
            cases hj : join m with
            | none =>
              rw [joinV_none hj] at HJ2
              have h170 := join_long HSG.out hj
              clear hj hmel
              go_wp2_with fail
              refine HJ2.out.mono ?_
              rintro e w21 hq
              have h21 := h20.makes hq
              obtain ⟨rfl, -⟩ := hq
              go_wp2
              go_ret
              exact ⟨ret_bool (by simp; omega), h21.forget⟩
            | some qq =>
              rw [joinV_some hj] at HJ2
              have hqs := (segs_join hj).1
              have hql := (join_some hj).2.2.1
              have HSQ := Lib.hid fun w hm => pSplit_any qq w (by omega) hm
              rw [hqs] at HSQ
              clear hj hqs hmel
              go_wp2_with fail
              refine HJ2.out.mono ?_
              rintro e w21 hq
              have h21 := h20.makes hq
              obtain ⟨rfl, -⟩ := hq
              go_wp2_with fail
              refine (HSQ.out w21 (hm.st h21)).mono ?_
              rintro e w22 ⟨a22, c22, rfl, hq⟩
              have h22 := St.compR h21 hq
              clear hq
              have HSm := Lib.hid ((same_any m m _ a22 m.length c22 a20 m.length c20 rfl rfl (by omega) h22.rowSl h22.right.rowSl).mono fun e w h => h.eq (v := .bool true) (by rw [decide_eq_true rfl]))
              go_wp2_with fail
              refine HSm.out.mono ?_
              rintro e w23 hq
              have h23 := h22.makes hq
              obtain ⟨rfl, -⟩ := hq
              go_wp2
              go_ret
              exact ⟨rfl, h23.forget⟩
      · have hl100' : 100 < len := by omega
        generalize sumMin 2001 (xs.take i) = q at *
        by_cases hlt : i < len
        · have h100 : 100 < i := by omega
          go_wp2
          go_ret
          exact ⟨rfl, h1⟩
        · go_wp2
          go_ret
          exact ⟨rfl, h1⟩

end Go.Proofs.YtnfnplbojdmfmaaDoor.PathB
