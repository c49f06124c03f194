import Derived.Test.YtnfnplbojdmfmaaDoorPathRt
import Derived.Test.YtnfnplbojdmfmaaDoorPathSp
namespace Go.Proofs.YtnfnplbojdmfmaaDoor.PathRs
open Go Go.RowKit Go.Proofs Go.Proofs.YtnfnplbojdmfmaaDoor.Sep Go.Proofs.YtnfnplbojdmfmaaDoor.Reg Go.Proofs.YtnfnplbojdmfmaaDoor.Frame Go.Proofs.YtnfnplbojdmfmaaDoor.PathP Go.Proofs.YtnfnplbojdmfmaaDoor.PathQ Go.Proofs.YtnfnplbojdmfmaaDoor.PathW Go.Proofs.YtnfnplbojdmfmaaDoor.PathL Go.Proofs.YtnfnplbojdmfmaaDoor.PathM Go.Proofs.YtnfnplbojdmfmaaDoor.PathT Go.Proofs.YtnfnplbojdmfmaaDoor.PathS Go.Proofs.YtnfnplbojdmfmaaDoor.PathSp Go.Proofs.YtnfnplbojdmfmaaDoor.PathR Go.Proofs.YtnfnplbojdmfmaaDoor.PathRt

theorem infoS : (Tryd.prog.info? 9).map (fun i => (i.zero, i.size, i.bytes)) = some (some (.string ByteArray.empty), 1, 16) := by kernel_rfl

def RInv (s : List UInt8) (i : Nat) (l : List (List UInt8)) (seg : List UInt8) : Prop :=
  (i ≤ s.length ∧ wfp (s.drop i) = true ∧ (scan (s.drop i) seg).map (l ++ ·) = segs s) ∨ (i = s.length + 1 ∧ segs s = some l)
theorem RInv.end_ {s : List UInt8} {i : Nat} {l : List (List UInt8)} {seg : List UInt8} (h : RInv s i l seg) (hi : s.length < i) : segs s = some l := by
  rcases h with ⟨h1, _⟩ | ⟨_, h2⟩
  · omega
  · exact h2
theorem RInv.no {s : List UInt8} {i : Nat} {l : List (List UInt8)} {seg : List UInt8} (h : RInv s i l seg) (hi : i = s.length ∨ s.drop i = 47 :: s.drop (i + 1)) (hm : may seg = false) : segs s = none := by
  rcases h with ⟨h1, _, h3⟩ | ⟨h1, _⟩
  · rw [← h3]
    rcases hi with rfl | hi
    · rw [List.drop_length]; simp [scan, hm]
    · rw [hi, scan_slash]; simp [hm]
  · rcases hi with hi | hi
    · omega
    · rw [List.drop_of_length_le (by omega)] at hi; cases hi
theorem RInv.flush {s : List UInt8} {i : Nat} {l : List (List UInt8)} {seg : List UInt8} (h : RInv s i l seg) (hi : i = s.length ∨ s.drop i = 47 :: s.drop (i + 1)) (hm : may seg = true) : RInv s (i + 1) (l ++ [seg]) [] := by
  rcases h with ⟨h1, hw, h3⟩ | ⟨h1, _⟩
  · rcases hi with rfl | hi
    · refine .inr ⟨rfl, ?_⟩
      rw [← h3, List.drop_length]; simp [scan, hm]
    · have hl := congrArg List.length hi
      simp only [List.length_drop, List.length_cons] at hl
      rw [hi, wfp_cons _ _ (by decide)] at hw
      refine .inl ⟨by omega, hw, ?_⟩
      rw [← h3, hi, scan_slash, if_pos hm, Option.map_map]
      refine congrArg (fun f => Option.map f _) ?_
      funext x
      simp
  · rcases hi with hi | hi
    · omega
    · rw [List.drop_of_length_le (by omega)] at hi; cases hi
theorem RInv.pct {s : List UInt8} {i : Nat} {l : List (List UInt8)} {seg : List UInt8} {a b : UInt8} (h : RInv s i l seg) (hi : s.drop i = 37 :: a :: b :: s.drop (i + 3)) : isHex a = true ∧ isHex b = true ∧ RInv s (i + 3) l (seg ++ [UInt8.ofNat (hexv a * 16 + hexv b)]) := by
  rcases h with ⟨h1, hw, h3⟩ | ⟨h1, _⟩
  · have hl := congrArg List.length hi
    simp only [List.length_drop, List.length_cons] at hl
    rw [hi] at hw
    obtain ⟨a', b', q, he, ha, hb, hq⟩ := wfp_pct _ hw
    simp only [List.cons.injEq] at he
    obtain ⟨rfl, rfl, rfl⟩ := he
    refine ⟨ha, hb, .inl ⟨by omega, hq, ?_⟩⟩
    rw [← h3, hi, scan_pct]
  · rw [List.drop_of_length_le (by omega)] at hi; cases hi
theorem RInv.pct_two {s : List UInt8} {i : Nat} {l : List (List UInt8)} {seg r : List UInt8} (h : RInv s i l seg) (hi : s.drop i = 37 :: r) : 2 ≤ r.length := by
  rcases h with ⟨h1, hw, h3⟩ | ⟨h1, _⟩
  · rw [hi] at hw
    obtain ⟨a', b', q, rfl, ha, hb, hq⟩ := wfp_pct _ hw
    simp
  · rw [List.drop_of_length_le (by omega)] at hi; cases hi
theorem RInv.one {s : List UInt8} {i : Nat} {l : List (List UInt8)} {seg : List UInt8} {x : UInt8} (h : RInv s i l seg) (hi : s.drop i = x :: s.drop (i + 1)) (h47 : x ≠ 47) (h37 : x ≠ 37) : RInv s (i + 1) l (seg ++ [x]) := by
  rcases h with ⟨h1, hw, h3⟩ | ⟨h1, _⟩
  · have hl := congrArg List.length hi
    simp only [List.length_drop, List.length_cons] at hl
    rw [hi, wfp_cons _ _ h37] at hw
    refine .inl ⟨by omega, hw, ?_⟩
    rw [← h3, hi, scan_cons _ _ _ h47 h37]
  · rw [List.drop_of_length_le (by omega)] at hi; cases hi

set_option maxRecDepth 100000 in
set_option maxHeartbeats 4000000 in
theorem rSplit_any (s : List UInt8) (w : World) (hs : s.length ≤ 1000000) : Calls Tryd.prog 13 #[.string ⟨s.toArray⟩] w (SegPost w (segs s)) := by
  obtain ⟨i9, hi9, hs0, hs1, hs2⟩ := info_parts infoS
  have h0 := St.start w
  have HT := Lib.hid (rTarget_any s w hs)
  by_cases hp : isPath s = true
  · obtain ⟨q, hq⟩ := (isPath_iff s).1 hp
    obtain ⟨hpl, hhd, h512, rfl⟩ := target_wfp hq
    rw [targV_some hq] at HT
    have hwf := wfp_drop hhd (plainB_wfp _ _ (Nat.le_refl _) hpl)
    have hpos : 1 ≤ s.length := by cases s with | nil => cases hhd | cons => simp
    have HI0 : Hid (RInv s 1 [] []) := Lib.hid (.inl ⟨hpos, hwf, by rw [← rsegs_eq]; unfold rsegs; rw [if_pos hp]; simp⟩)
    clear hwf hp hpl hhd hq
    go_enter Tryd.func13, Tryd.ntmps13
    go_wp2_with fail
    refine HT.out.mono ?_
    rintro e w1 hq
    have h1 := h0.makes hq
    obtain ⟨rfl, -⟩ := hq
    have h2 : St w w1 (star (Row 9 1 (.slice none 0 0) 0 (strsV [])) emp) := h1.nilRow
    go_wp2_with fail
    go_loopw [7, 8, 9] (fun lv sv iv wr => ∃ (i n : Nat) (a : Option Addr) (c : Nat) (l : List (List UInt8)) (seg : List UInt8), i ≤ s.length + 1 ∧ n ≤ i ∧ seg.length ≤ i ∧ iv = .int .i64 i ∧ sv = .string ⟨seg.toArray⟩ ∧ lv = .slice a n c ∧ l.length = n ∧ RInv s i l seg ∧
      St w wr (star (Row 9 1 (.slice a n c) n (strsV l)) emp)) (fun _ _ iv _ => s.length + 1 - (intOf iv).toNat)
    case atStart => exact ⟨1, 0, none, 0, [], [], by omega, by omega, by simp, rfl, rfl, rfl, rfl, HI0.out, h2⟩
    case round =>
      obtain ⟨i, n, a, c, l, seg, hi, hni, hsi, rfl, rfl, rfl, hln, hinv, hS⟩ := hrel
      have HL := Lib.hid hln
      have HR := Lib.hid hinv
      clear hln hinv h0 h1 h2 HI0 HT
      have HM := Lib.hid fun w => rmay_any seg w (by omega)
      by_cases hi2 : i < s.length
      · have hsz : i < (ByteArray.mk s.toArray).size := by simpa [ByteArray.size] using hi2
        have HD := Lib.hid (drop_byte s i hsz)
        have hneI : ((i : Int) == (s.length : Int)) = false := by simp only [beq_eq_false_iff_ne, ne_eq]; omega
        generalize hc : (ByteArray.mk s.toArray)[i]'hsz = x at *
        by_cases h47 : x = 47
        · subst h47
          cases hmy : may seg
          · rw [hmy] at HM
            have HF := Lib.hid (HR.out.no (.inr HD.out) hmy)
            clear hmy
            go_wp2_with fail
            refine (HM.out _).mono ?_
            rintro e w' ⟨rfl, rfl⟩
            go_wp2
            go_ret2
            exact SegPost.no HF.out rfl hS.below
          · rw [hmy] at HM
            have HN := Lib.hid (HR.out.flush (.inr HD.out) hmy)
            clear hmy
            go_wp2_with fail
            refine (HM.out _).mono ?_
            rintro e w' ⟨rfl, rfl⟩
            go_wp2_with (at_builtin; refine wpList_append1 rfl (.tmp 46) (.tmp 48) 22 rfl 9 i9 _ 1 16 Tryd.underlying22 hi9 hs0 hs1 hs2 rfl _ n _ rfl hS _ rfl rfl (by intro u hu; simp at hu; subst hu; rfl) (by unfold maxLen; omega) (by omega) ?_)
            intro a5 c5 w5 hS5
            go_wp2
            refine ⟨⟨i + 1, n + 1, _, _, l ++ [seg], [], by omega, by omega, by simp, by go_num, rfl, rfl, by simp [HL.out], HN.out, ?_⟩, by simp [intOf]; omega⟩
            rw [strsV_append]
            exact hS5
        · have h47I : ((x.toNat : Int) == 47) = false := byte_ne h47
          by_cases h37 : x = 37
          · subst h37
            have h2l := HR.out.pct_two HD.out
            have hlen : i + 3 ≤ s.length := by simp at h2l; omega
            have hsa : i + 1 < (ByteArray.mk s.toArray).size := by simp [ByteArray.size]; omega
            have hsb : i + 2 < (ByteArray.mk s.toArray).size := by simp [ByteArray.size]; omega
            have hda := drop_byte s (i + 1) hsa
            have hdb := drop_byte s (i + 2) hsb
            generalize hca : (ByteArray.mk s.toArray)[i + 1]'hsa = a' at *
            generalize hcb : (ByteArray.mk s.toArray)[i + 2]'hsb = b' at *
            obtain ⟨ha, hb, hN⟩ := HR.out.pct (by rw [HD.out, hda, hdb])
            have HN := Lib.hid hN
            have hva := hexv_lt a' ha
            have hvb := hexv_lt b' hb
            clear hda hdb hN h2l h47
            go_wp2_with fail
            have hx1 : (i : Int) + 1 < (s.length : Int) := by omega
            have hx2 : (i : Int) + 2 < (s.length : Int) := by omega
            have hx3 : (0 : Int) ≤ (i : Int) + 1 := by omega
            have hx4 : (0 : Int) ≤ (i : Int) + 2 := by omega
            refine wp_region_segs [(false, [0]), (true, [1, 2, 3, 4, 5, 6, 7, 8, 9, 10, 11, 12, 13]), (false, [14, 15, 16, 17])] (by kernel_rfl) (by kernel_rfl) ?_
            simp only [wpSegs, pickOps, nthOp]
            go_wp2_with fail
            simp only [Reg.Next]
            repeat (go_big_quiet_step ((go_at_call 22; exact (rhex_any _ _ (by assumption)).mono fun e w' h => ⟨h.1, _, h.2⟩)))
            refine wpQuiet_nil ?_
            intro nq
            have hS8 := (hS.drewN (1 + nq)).alloc (.cells #[.int .u8 (16 * (hexv a' : Int) + (hexv b' : Int))] 5 (0, 0))
            have hcv := run_string_one (P := Tryd.prog) 31 9 5 Tryd.underlying31 Tryd.underlying5 Tryd.underlying9 (wr.drewN (1 + nq)) wr.heap.size (by simp) (16 * (hexv a' : Int) + (hexv b' : Int)) (hexv a' * 16 + hexv b') (by omega) (by omega) (0, 0)
            have hadd := run_str_add (P := Tryd.prog) seg [UInt8.ofNat (hexv a' * 16 + hexv b')] (by simp; omega)
            generalize UInt8.ofNat (hexv a' * 16 + hexv b') = y at *
            go_wp2_with fail
            simp only [Reg.Next]
            go_wp2
            exact ⟨⟨i + 3, n, _, _, l, seg ++ [y], by omega, by omega, by simp; omega, by go_num, rfl, rfl, HL.out, HN.out, hS8.right⟩, by simp [intOf]; omega⟩
          · have h37I : ((x.toNat : Int) == 37) = false := byte_ne h37
            have HN := Lib.hid (HR.out.one HD.out h47 h37)
            have hsl := run_str_lh (P := Tryd.prog) 9 Tryd.underlying9 s (i : Int) ((i : Int) + 1) i (i + 1) rfl (by omega) (by omega) (by omega)
            have htk : (s.drop i).take (i + 1 - i) = [x] := by rw [HD.out, show i + 1 - i = 1 from by omega]; rfl
            rw [htk] at hsl
            have hadd := run_str_add (P := Tryd.prog) seg [x] (by simp; omega)
            clear h37 h47 htk
            go_wp2_with fail
            refine ⟨⟨i + 1, n, _, _, l, seg ++ [x], by omega, by omega, by simp; omega, by go_num, rfl, rfl, HL.out, HN.out, hS⟩, ?_⟩
            simp [intOf]
            omega
      · by_cases hi3 : i = s.length
        · subst hi3
          cases hmy : may seg
          · rw [hmy] at HM
            have HF := Lib.hid (HR.out.no (.inl rfl) hmy)
            clear hmy
            go_wp2_with fail
            refine (HM.out _).mono ?_
            rintro e w' ⟨rfl, rfl⟩
            go_wp2
            go_ret2
            exact SegPost.no HF.out rfl hS.below
          · rw [hmy] at HM
            have HN := Lib.hid (HR.out.flush (.inl rfl) hmy)
            clear hmy
            go_wp2_with fail
            refine (HM.out _).mono ?_
            rintro e w' ⟨rfl, rfl⟩
            go_wp2_with (at_builtin; refine wpList_append1 rfl (.tmp 46) (.tmp 48) 22 rfl 9 i9 _ 1 16 Tryd.underlying22 hi9 hs0 hs1 hs2 rfl _ n _ rfl hS _ rfl rfl (by intro u hu; simp at hu; subst hu; rfl) (by unfold maxLen; omega) (by omega) ?_)
            intro a5 c5 w5 hS5
            go_wp2
            refine ⟨⟨s.length + 1, n + 1, _, _, l ++ [seg], [], by omega, by omega, by simp, by go_num, rfl, rfl, by simp [HL.out], HN.out, ?_⟩, by simp [intOf]⟩
            rw [strsV_append]
            exact hS5
        · have HF := Lib.hid (HR.out.end_ (by omega))
          go_wp2_with fail
          go_ret2
          exact SegPost.yes HF.out HL.out rfl hS
  · have HF : Hid (segs s = none) := Lib.hid (by unfold segs; rw [if_neg hp])
    cases hT : target s with
    | none =>
      rw [targV_none hT] at HT
      clear hT hp
      go_enter Tryd.func13, Tryd.ntmps13
      go_wp2_with fail
      refine HT.out.mono ?_
      rintro e w1 hq
      have h1 := h0.makes hq
      obtain ⟨rfl, -⟩ := hq
      go_wp2
      go_ret2
      exact SegPost.no HF.out rfl h1.below
    | some pq =>
      obtain ⟨p, q⟩ := pq
      rw [targV_some hT] at HT
      have hne : ¬ p = s := by rintro rfl; exact hp ((isPath_iff _).2 ⟨q, hT⟩)
      have hneb : (p == s) = false := by simpa using hne
      clear hT hp hne
      go_enter Tryd.func13, Tryd.ntmps13
      go_wp2_with fail
      refine HT.out.mono ?_
      rintro e w1 hq
      have h1 := h0.makes hq
      obtain ⟨rfl, -⟩ := hq
      go_wp2
      go_ret2
      exact SegPost.no HF.out rfl h1.below

end Go.Proofs.YtnfnplbojdmfmaaDoor.PathRs
