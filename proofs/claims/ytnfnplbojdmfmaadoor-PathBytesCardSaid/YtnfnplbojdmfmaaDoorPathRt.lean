import Derived.Test.YtnfnplbojdmfmaaDoorPathR
namespace Go.Proofs.YtnfnplbojdmfmaaDoor.PathRt
open Go Go.RowKit Go.Proofs Go.Proofs.YtnfnplbojdmfmaaDoor.Sep Go.Proofs.YtnfnplbojdmfmaaDoor.Reg Go.Proofs.YtnfnplbojdmfmaaDoor.Frame Go.Proofs.YtnfnplbojdmfmaaDoor.PathP Go.Proofs.YtnfnplbojdmfmaaDoor.PathQ Go.Proofs.YtnfnplbojdmfmaaDoor.PathW Go.Proofs.YtnfnplbojdmfmaaDoor.PathL Go.Proofs.YtnfnplbojdmfmaaDoor.PathM Go.Proofs.YtnfnplbojdmfmaaDoor.PathT Go.Proofs.YtnfnplbojdmfmaaDoor.PathS Go.Proofs.YtnfnplbojdmfmaaDoor.PathR

theorem rtargV_none {s : List UInt8} (h : ¬(s.length ≤ 512 ∧ s.head? = some 47 ∧ plainB [63] s = true)) : targV s = .tuple #[.string ⟨#[]⟩, .string ⟨#[]⟩, .bool false] :=
  targV_none (by rw [← rtarget_eq]; unfold rtarget; rw [if_neg h])
theorem rtargV_some {s : List UInt8} (h : s.length ≤ 512 ∧ s.head? = some 47 ∧ plainB [63] s = true) : targV s = .tuple #[.string ⟨(cutQ s).1.toArray⟩, .string ⟨(cutQ s).2.toArray⟩, .bool true] :=
  targV_some (by rw [← rtarget_eq]; unfold rtarget; rw [if_pos h])

/-- What the mark says once i bytes are seen. -/
def MarkAt (s : List UInt8) (i : Nat) (m : Value) : Prop :=
  (m = .int .i64 (-1) ∧ ∀ j, j < i → ∀ c, s[j]? = some c → c ≠ 63) ∨ (∃ q : Nat, m = .int .i64 q ∧ q < i ∧ q < s.length ∧ s.take q = (cutQ s).1 ∧ s.drop (q + 1) = (cutQ s).2)
theorem cutQ_at : ∀ (s : List UInt8) (i : Nat), (∀ j, j < i → ∀ c, s[j]? = some c → c ≠ 63) → s[i]? = some 63 → s.take i = (cutQ s).1 ∧ s.drop (i + 1) = (cutQ s).2
  | [], _, _, h => by simp at h
  | c :: r, 0, _, h => by
    simp at h; subst h; simp [cutQ]
  | c :: r, i + 1, hj, h => by
    have hc := hj 0 (by omega) c rfl
    have ih := cutQ_at r i (fun j hji d hd => hj (j + 1) (by omega) d (by simpa using hd)) (by simpa using h)
    have e1 : (cutQ (c :: r)).1 = c :: (cutQ r).1 := by simp [cutQ, hc]
    have e2 : (cutQ (c :: r)).2 = (cutQ r).2 := by simp [cutQ, hc]
    rw [e1, e2, ← ih.1, ← ih.2]
    exact ⟨rfl, rfl⟩
theorem cutQ_none : ∀ (s : List UInt8), (∀ j, j < s.length → ∀ c, s[j]? = some c → c ≠ 63) → cutQ s = (s, [])
  | [], _ => rfl
  | c :: r, h => by
    have hc := h 0 (by simp) c rfl
    have ih := cutQ_none r (fun j hj d hd => h (j + 1) (by simpa using hj) d (by simpa using hd))
    have e1 : (cutQ (c :: r)).1 = c :: (cutQ r).1 := by simp [cutQ, hc]
    have e2 : (cutQ (c :: r)).2 = (cutQ r).2 := by simp [cutQ, hc]
    rw [ih] at e1 e2
    exact Prod.ext e1 e2
theorem MarkAt.next {s : List UInt8} {i : Nat} {m : Value} {x : UInt8} (h : MarkAt s i m) (hx : s[i]? = some x) (hne : x ≠ 63) : MarkAt s (i + 1) m := by
  rcases h with ⟨rfl, h⟩ | ⟨q, rfl, h1, h2⟩
  · refine .inl ⟨rfl, fun j hj c hc => ?_⟩
    by_cases e : j = i
    · subst e; rw [hx] at hc; cases hc; exact hne
    · exact h j (by omega) c hc
  · exact .inr ⟨q, rfl, by omega, h2⟩
theorem MarkAt.set {s : List UInt8} {i : Nat} (h : ∀ j, j < i → ∀ c, s[j]? = some c → c ≠ 63) (hx : s[i]? = some 63) : MarkAt s (i + 1) (.int .i64 i) := by
  obtain ⟨h1, h2⟩ := cutQ_at s i h hx
  exact .inr ⟨i, rfl, by omega, by have := List.getElem?_eq_some_iff.1 hx; exact this.1, h1, h2⟩
theorem MarkAt.keep {s : List UInt8} {i q : Nat} (h1 : q < i) (h2 : q < s.length ∧ s.take q = (cutQ s).1 ∧ s.drop (q + 1) = (cutQ s).2) : MarkAt s (i + 1) (.int .i64 q) :=
  .inr ⟨q, rfl, by omega, h2⟩

set_option maxRecDepth 100000 in
set_option maxHeartbeats 4000000 in
theorem rTarget_any (s : List UInt8) (w : World) (hs : s.length ≤ 1000000) : Calls Tryd.prog 20 #[.string ⟨s.toArray⟩] w (Makes w (targV s)) := by
  have h0 := St.start w
  by_cases h00 : s.length = 0
  · obtain rfl : s = [] := List.length_eq_zero_iff.1 h00
    have HF : Hid (targV [] = _) := Lib.hid (rtargV_none (by rintro ⟨_, h, _⟩; cases h))
    go_enter Tryd.func20, Tryd.ntmps20
    go_wp2
    go_ret3
    exact ⟨congrArg Ending.returned HF.out.symm, h0.below⟩
  by_cases h512 : s.length ≤ 512
  rotate_left
  · have HF : Hid (targV s = _) := Lib.hid (rtargV_none (by rintro ⟨h, _⟩; exact h512 h))
    go_enter Tryd.func20, Tryd.ntmps20
    go_wp2
    go_ret3
    exact ⟨congrArg Ending.returned HF.out.symm, h0.below⟩
  have h00I : ((s.length : Int) == 0) = false := by simp only [beq_eq_false_iff_ne, ne_eq]; omega
  have h512I : ¬ (512 : Int) < (s.length : Int) := by omega
  have hsz0 : 0 < (ByteArray.mk s.toArray).size := by simp [ByteArray.size]; omega
  have hg0 := get_byte s 0 hsz0
  generalize hc0 : (ByteArray.mk s.toArray)[0]'hsz0 = y at *
  have hh : s.head? = some y := by rw [← hg0]; cases s <;> rfl
  by_cases hy : y = 47
  rotate_left
  · have HF : Hid (targV s = _) := Lib.hid (rtargV_none (by rintro ⟨_, h, _⟩; rw [hh] at h; exact hy (Option.some.inj h)))
    have hyI : ((y.toNat : Int) != 47) = true := by have := byte_ne hy; simpa using this
    clear hy hh hg0
    go_enter Tryd.func20, Tryd.ntmps20
    go_wp2_with fail
    go_ret3
    exact ⟨congrArg Ending.returned HF.out.symm, h0.below⟩
  subst hy
  have HFN : Hid (plainB [63] s = false → targV s = _) := Lib.hid fun h => rtargV_none (by rintro ⟨_, _, h2⟩; rw [h] at h2; cases h2)
  have HFS : Hid (plainB [63] s = true → targV s = _) := Lib.hid fun h => rtargV_some ⟨h512, hh, h⟩
  clear hh hg0
  go_enter Tryd.func20, Tryd.ntmps20
  go_wp2_with fail
  go_loop [5, 6] (fun mv iv => ∃ i : Nat, i ≤ s.length ∧ iv = .int .i64 i ∧ MarkAt s i mv ∧ plainB [63] (s.drop i) = plainB [63] s) (fun _ iv => s.length - (intOf iv).toNat)
  case atStart => exact ⟨0, by omega, rfl, .inl ⟨rfl, fun j hj => absurd hj (by omega)⟩, rfl⟩
  case round =>
    obtain ⟨i, hi, rfl, hmk, hrel⟩ := hrel
    have HR := Lib.hid hrel
    have HM := Lib.hid hmk
    clear hrel hmk
    by_cases hi2 : i < s.length
    · have hsz : i < (ByteArray.mk s.toArray).size := by simpa [ByteArray.size] using hi2
      have HD := Lib.hid (drop_byte s i hsz)
      have HG := Lib.hid (get_byte s i hsz)
      generalize hc : (ByteArray.mk s.toArray)[i]'hsz = x at *
      by_cases h63 : x = 63
      · subst h63
        have HN : Hid (plainB [63] (s.drop (i + 1)) = plainB [63] s) := Lib.hid (by rw [← HR.out, HD.out, plainB_ok _ _ _ (by decide)])
        rcases HM.out with ⟨rfl, hm⟩ | ⟨q, rfl, hq, hq2⟩
        · have HS := Lib.hid (MarkAt.set hm HG.out)
          clear hm
          go_wp2_with fail
          exact ⟨⟨i + 1, by omega, by go_num, HS.out, HN.out⟩, by simp [intOf]; omega⟩
        · have HS := Lib.hid (MarkAt.keep hq hq2)
          clear hq2
          go_wp2_with fail
          exact ⟨⟨i + 1, by omega, by go_num, HS.out, HN.out⟩, by simp [intOf]; omega⟩
      have h63I : ((x.toNat : Int) == 63) = false := byte_ne h63
      have HS := Lib.hid (HM.out.next HG.out h63)
      have hok63 := okC_63 x h63
      by_cases h37 : x = 37
      · subst h37
        have HI : Hid (∀ w, Calls Tryd.prog 31 #[.int .u8 37, .string ⟨okS.toArray⟩] w (Same w (.bool false))) := Lib.hid fun w => in_any 37 okS false w (by decide) (by decide)
        clear h63 hok63
        by_cases hi3 : i + 2 < s.length
        · have hsa : i + 1 < (ByteArray.mk s.toArray).size := by simp [ByteArray.size]; omega
          have hsb : i + 2 < (ByteArray.mk s.toArray).size := by simp [ByteArray.size]; omega
          have HDa := Lib.hid (drop_byte s (i + 1) hsa)
          have HDb := Lib.hid (drop_byte s (i + 2) hsb)
          have HGa := Lib.hid (get_byte s (i + 1) hsa)
          have HGb := Lib.hid (get_byte s (i + 2) hsb)
          generalize hca : (ByteArray.mk s.toArray)[i + 1]'hsa = a at *
          generalize hcb : (ByteArray.mk s.toArray)[i + 2]'hsb = b at *
          have HA := Lib.hid fun w => isHex_any a w
          have HB := Lib.hid fun w => isHex_any b w
          cases ha : isHex a
          · rw [ha] at HA
            have HF := Lib.hid (HFN.out (by rw [← HR.out, HD.out, plainB_no _ _ _ (by decide) (.inr (.inr (.inl (by rw [HDa.out]; exact ha))))]))
            clear ha
            go_wp2_with fail
            refine (HA.out _).mono ?_
            rintro e w' ⟨rfl, rfl⟩
            go_wp2_with fail
            refine (HI.out _).mono ?_
            rintro e w' ⟨rfl, rfl⟩
            go_wp2_with fail
            go_ret3
            exact ⟨congrArg Ending.returned HF.out.symm, h0.below⟩
          · rw [ha] at HA
            cases hb : isHex b
            · rw [hb] at HB
              have HF := Lib.hid (HFN.out (by rw [← HR.out, HD.out, plainB_no _ _ _ (by decide) (.inr (.inr (.inr (by rw [HDa.out, HDb.out]; exact hb))))]))
              clear ha hb
              go_wp2_with fail
              refine (HA.out _).mono ?_
              rintro e w' ⟨rfl, rfl⟩
              go_wp2_with fail
              refine (HB.out _).mono ?_
              rintro e w' ⟨rfl, rfl⟩
              go_wp2_with fail
              refine (HI.out _).mono ?_
              rintro e w' ⟨rfl, rfl⟩
              go_wp2_with fail
              go_ret3
              exact ⟨congrArg Ending.returned HF.out.symm, h0.below⟩
            · rw [hb] at HB
              have HN : Hid (plainB [63] (s.drop (i + 3)) = plainB [63] s) := Lib.hid (by
                rw [← HR.out, HD.out, HDa.out, HDb.out, plainB_pct _ _ _ _ (by decide) ha hb])
              have HS3 := Lib.hid ((HS.out.next HGa.out (hex_ne a ha).1).next HGb.out (hex_ne b hb).1)
              clear ha hb
              go_wp2_with fail
              refine (HA.out _).mono ?_
              rintro e w' ⟨rfl, rfl⟩
              go_wp2_with fail
              refine (HB.out _).mono ?_
              rintro e w' ⟨rfl, rfl⟩
              go_wp2_with fail
              exact ⟨⟨i + 3, by omega, by go_num, HS3.out, HN.out⟩, by simp [intOf]; omega⟩
        · have HF := Lib.hid (HFN.out (by rw [← HR.out, HD.out, plainB_no _ _ _ (by decide) (.inr (.inl (by simp; omega)))]))
          go_wp2_with fail
          refine (HI.out _).mono ?_
          rintro e w' ⟨rfl, rfl⟩
          go_wp2_with fail
          go_ret3
          exact ⟨congrArg Ending.returned HF.out.symm, h0.below⟩
      have h37I : ((x.toNat : Int) == 37) = false := byte_ne h37
      have HI := Lib.hid fun w => in_any x okS (okC [] x) w (by decide) (okS_eq x)
      cases hok : okC [] x
      · rw [hok] at HI
        have HF := Lib.hid (HFN.out (by rw [← HR.out, HD.out, plainB_no _ _ _ (by rw [hok63, hok]) (.inl h37)]))
        clear hok hok63 h63 h37
        go_wp2_with fail
        refine (HI.out _).mono ?_
        rintro e w' ⟨rfl, rfl⟩
        go_wp2_with fail
        go_ret3
        exact ⟨congrArg Ending.returned HF.out.symm, h0.below⟩
      · rw [hok] at HI
        have HN : Hid (plainB [63] (s.drop (i + 1)) = plainB [63] s) := Lib.hid (by rw [← HR.out, HD.out, plainB_ok _ _ _ (by rw [hok63, hok])])
        clear hok hok63 h63 h37
        go_wp2_with fail
        refine (HI.out _).mono ?_
        rintro e w' ⟨rfl, rfl⟩
        go_wp2_with fail
        exact ⟨⟨i + 1, by omega, by go_num, HS.out, HN.out⟩, by simp [intOf]; omega⟩
    · obtain rfl : i = s.length := by omega
      have HF := Lib.hid (HFS.out (by rw [← HR.out, List.drop_length]; rfl))
      rcases HM.out with ⟨rfl, hm⟩ | ⟨q, rfl, hq, hq2, hq3, hq4⟩
      · have hcq := cutQ_none s hm
        rw [hcq] at HF
        clear hm hcq
        go_wp2_with fail
        go_ret3
        exact ⟨congrArg Ending.returned HF.out.symm, h0.below⟩
      · rw [← hq3, ← hq4] at HF
        clear hq3 hq4
        go_wp2_with fail
        go_quiet (fail)
        go_wp2
        go_ret3
        have e1 : (ByteArray.mk s.toArray).extract 0 q = ⟨(s.take q).toArray⟩ := by rw [str_extract]; simp
        have e2 : (ByteArray.mk s.toArray).extract (q + 1) s.length = ⟨(s.drop (q + 1)).toArray⟩ := by rw [str_extract, List.take_of_length_le (by simp)]
        refine ⟨?_, drewN_below w nq⟩
        rw [HF.out, ← e1, ← e2]
        rfl

end Go.Proofs.YtnfnplbojdmfmaaDoor.PathRt
