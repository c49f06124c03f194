import Derived.Test.YtnfnplbojdmfmaaDoorPathS
namespace Go.Proofs.YtnfnplbojdmfmaaDoor.PathR
open Go Go.RowKit Go.Proofs Go.Proofs.YtnfnplbojdmfmaaDoor.Sep Go.Proofs.YtnfnplbojdmfmaaDoor.Reg Go.Proofs.YtnfnplbojdmfmaaDoor.Frame Go.Proofs.YtnfnplbojdmfmaaDoor.PathP Go.Proofs.YtnfnplbojdmfmaaDoor.PathQ Go.Proofs.YtnfnplbojdmfmaaDoor.PathW Go.Proofs.YtnfnplbojdmfmaaDoor.PathL Go.Proofs.YtnfnplbojdmfmaaDoor.PathM Go.Proofs.YtnfnplbojdmfmaaDoor.PathT Go.Proofs.YtnfnplbojdmfmaaDoor.PathS

theorem byte_ne {x c : UInt8} (h : x ≠ c) : ((x.toNat : Int) == (c.toNat : Int)) = false := by
  simp only [beq_eq_false_iff_ne, ne_eq]
  intro e
  exact h (UInt8.toNat_inj.1 (by omega))

set_option maxRecDepth 100000 in
theorem in_any (c : UInt8) (s : List UInt8) (b : Bool) (w : World) (hs : s.length ≤ 1000000) (hb : s.contains c = b) : Calls Tryd.prog 31 #[.int .u8 c.toNat, .string ⟨s.toArray⟩] w (Same w (.bool b)) := by
  have HB := Lib.hid hb
  clear hb
  go_enter Tryd.func31, Tryd.ntmps31
  go_wp2_with fail
  go_loop [5] (fun iv => ∃ i : Nat, i ≤ s.length ∧ iv = .int .i64 i ∧ (s.drop i).contains c = s.contains c) (fun iv => s.length - (intOf iv).toNat)
  case atStart => exact ⟨0, by omega, rfl, rfl⟩
  case round =>
    obtain ⟨i, hi, rfl, hcc⟩ := hrel
    have HC := Lib.hid hcc
    clear hcc
    by_cases hi2 : i < s.length
    · have hsz : i < (ByteArray.mk s.toArray).size := by simpa [ByteArray.size] using hi2
      have HD := Lib.hid (drop_byte s i hsz)
      generalize hc : (ByteArray.mk s.toArray)[i]'hsz = x at *
      by_cases hx : x = c
      · subst hx
        have HT : Hid (s.contains x = true) := Lib.hid (by rw [← HC.out, HD.out]; simp)
        go_wp2_with fail
        go_ret
        exact ⟨ret_bool (HT.out.symm.trans HB.out), rfl⟩
      · have hxI := byte_ne hx
        have HN : Hid ((s.drop (i + 1)).contains c = s.contains c) := Lib.hid (by
          have : (c == x) = false := by simpa using fun e => hx e.symm
          rw [← HC.out, HD.out, List.contains_cons, this, Bool.false_or])
        clear hx
        go_wp2_with fail
        exact ⟨⟨i + 1, by omega, by go_num, HN.out⟩, by simp [intOf]; omega⟩
    · obtain rfl : i = s.length := by omega
      have HT : Hid (s.contains c = false) := Lib.hid (by rw [← HC.out, List.drop_length]; rfl)
      go_wp2_with fail
      go_ret
      exact ⟨ret_bool (HT.out.symm.trans HB.out), rfl⟩

set_option maxRecDepth 100000 in
theorem isHex_any (c : UInt8) (w : World) : Calls Tryd.prog 30 #[.int .u8 c.toNat] w (Same w (.bool (isHex c))) := by
  have HI := Lib.hid fun w => in_any c hexs (isHex c) w (by decide) rfl
  go_enter Tryd.func30, Tryd.ntmps30
  go_wp2_with fail
  refine (HI.out _).mono ?_
  rintro e w' ⟨rfl, rfl⟩
  go_wp2_with fail
  go_ret
  exact ⟨rfl, rfl⟩

/-- What the plain one's Target lets stand. -/
def okS : List UInt8 := [97, 98, 99, 100, 101, 102, 103, 104, 105, 106, 107, 108, 109, 110, 111, 112, 113, 114, 115, 116, 117, 118, 119, 120, 121, 122, 65, 66, 67, 68, 69, 70, 71, 72, 73, 74, 75, 76, 77, 78] ++ [79, 80, 81, 82, 83, 84, 85, 86, 87, 88, 89, 90, 48, 49, 50, 51, 52, 53, 54, 55, 56, 57, 45, 46, 95, 126, 33, 36, 38, 39, 40, 41, 42, 43, 44, 59, 61, 58, 64, 47]
theorem okS_eq (c : UInt8) : okS.contains c = okC [] c := by
  have h : ∀ n : Fin 256, okS.contains (UInt8.ofNat n.val) = okC [] (UInt8.ofNat n.val) := by decide +kernel
  have := h ⟨c.toNat, c.toNat_lt⟩
  simpa using this

set_option maxRecDepth 100000 in
theorem rmay_any (s : List UInt8) (w : World) (hs : s.length ≤ 1000000) : Calls Tryd.prog 21 #[.string ⟨s.toArray⟩] w (Same w (.bool (may s))) := by
  go_enter Tryd.func21, Tryd.ntmps21
  go_wp2_with fail
  go_loop [3] (fun iv => ∃ i : Nat, i ≤ s.length ∧ iv = .int .i64 i ∧ has2 (s.drop i) = has2 s) (fun iv => s.length - (intOf iv).toNat)
  case atStart => exact ⟨0, by omega, rfl, rfl⟩
  case round =>
    obtain ⟨i, hi, rfl, hcc⟩ := hrel
    have HC := Lib.hid hcc
    have hmay : may s = (s != [46] && s != [46, 46] && !has2 s) := by unfold may has2; cases s.contains 47 <;> cases s.contains 0 <;> simp
    have HM := Lib.hid hmay
    clear hcc hmay
    by_cases hi2 : i < s.length
    · have hsz : i < (ByteArray.mk s.toArray).size := by simpa [ByteArray.size] using hi2
      have HD := Lib.hid (drop_byte s i hsz)
      generalize hc : (ByteArray.mk s.toArray)[i]'hsz = x at *
      by_cases h47 : x = 47
      · subst h47
        have HT : Hid (may s = false) := Lib.hid (by rw [HM.out, ← HC.out, HD.out]; simp [has2])
        go_wp2_with fail
        go_ret
        exact ⟨ret_bool HT.out.symm, rfl⟩
      have hx47 : ((x.toNat : Int) == 47) = false := byte_ne h47
      by_cases hx0 : x = 0
      · subst hx0
        have HT : Hid (may s = false) := Lib.hid (by rw [HM.out, ← HC.out, HD.out]; simp [has2])
        clear h47
        go_wp2_with fail
        go_ret
        exact ⟨ret_bool HT.out.symm, rfl⟩
      have hx0I : ((x.toNat : Int) == 0) = false := byte_ne hx0
      have HN : Hid (has2 (s.drop (i + 1)) = has2 s) := Lib.hid (by
        have e1 : ((47 : UInt8) == x) = false := by simpa using fun e => h47 e.symm
        have e2 : ((0 : UInt8) == x) = false := by simpa using fun e => hx0 e.symm
        rw [← HC.out, HD.out]; unfold has2; rw [List.contains_cons, List.contains_cons, e1, e2]; rfl)
      clear h47 hx0
      go_wp2_with fail
      exact ⟨⟨i + 1, by omega, by go_num, HN.out⟩, by simp [intOf]; omega⟩
    · obtain rfl : i = s.length := by omega
      have h2 : has2 s = false := by rw [← HC.out, List.drop_length]; rfl
      have HM2 : Hid (may s = (s != [46] && s != [46, 46])) := Lib.hid (by rw [HM.out, h2]; simp)
      clear h2
      by_cases h46 : s = [46]
      · subst h46
        go_wp2_with fail
        go_ret
        exact ⟨ret_bool HM2.out.symm, rfl⟩
      by_cases h462 : s = [46, 46]
      · subst h462
        clear h46
        go_wp2_with fail
        go_ret
        exact ⟨ret_bool HM2.out.symm, rfl⟩
      have HT : Hid (may s = true) := Lib.hid (by rw [HM2.out]; simp [h46, h462])
      have e1 : (s == [46]) = false := by simpa using h46
      have e2 : (s == [46, 46]) = false := by simpa using h462
      clear h46 h462
      go_wp2_with fail
      go_ret
      exact ⟨ret_bool HT.out.symm, rfl⟩

theorem hexs_get : ∀ h : Fin 22, hexv (hexs.getD h.val 0) = if h.val > 15 then h.val - 6 else h.val := by decide
set_option maxRecDepth 100000 in
theorem rhex_any (c : UInt8) (w : World) (hx : isHex c = true) : Calls Tryd.prog 22 #[.int .u8 c.toNat] w (Same w (.int .i64 (hexv c : Nat))) := by
  have HX := Lib.hid hx
  clear hx
  go_enter Tryd.func22, Tryd.ntmps22
  go_wp2_with fail
  go_loop [3] (fun iv => ∃ i : Nat, i ≤ 22 ∧ iv = .int .i64 i ∧ (hexs.drop i).contains c = true) (fun iv => 22 - (intOf iv).toNat)
  case atStart => exact ⟨0, by omega, rfl, HX.out⟩
  case round =>
    obtain ⟨i, hi, rfl, hcc⟩ := hrel
    have HC := Lib.hid hcc
    clear hcc
    by_cases hi2 : i < 22
    · have hsz : i < (ByteArray.mk hexs.toArray).size := by simpa [ByteArray.size, hexs] using hi2
      have HD := Lib.hid (drop_byte hexs i hsz)
      have hg := hexs_get ⟨i, hi2⟩
      have hg2 := get_byte hexs i hsz
      rw [List.getD_eq_getElem?_getD, hg2] at hg
      have HG : Hid (hexv ((ByteArray.mk hexs.toArray)[i]'hsz) = if i > 15 then i - 6 else i) := Lib.hid hg
      clear hg hg2
      simp only [hexs] at hsz HD HG
      generalize hc : (ByteArray.mk _)[i]'hsz = x at *
      have hi3 : (i : Int) < 22 := by omega
      by_cases hx : x = c
      · subst hx
        by_cases h15 : 15 < i
        · have e : hexv x = i - 6 := by rw [HG.out, if_pos h15]
          have E := Lib.hid e
          clear e
          go_wp2_with fail
          go_ret
          exact ⟨congrArg _ (int_eq (by rw [E.out]; omega)), rfl⟩
        · have e : hexv x = i := by rw [HG.out, if_neg h15]
          have E := Lib.hid e
          clear e
          go_wp2_with fail
          go_ret
          exact ⟨congrArg _ (int_eq (by rw [E.out])), rfl⟩
      · have hxI := byte_ne hx
        have HN : Hid ((hexs.drop (i + 1)).contains c = true) := Lib.hid (by
          have : (c == x) = false := by simpa using fun e => hx e.symm
          have h2 := HC.out
          have h3 := HD.out
          simp only [hexs] at h2 ⊢
          rw [h3, List.contains_cons, this, Bool.false_or] at h2
          exact h2)
        clear hx
        go_wp2_with fail
        exact ⟨⟨i + 1, by omega, by go_num, HN.out⟩, by simp [intOf]; omega⟩
    · obtain rfl : i = 22 := by omega
      have := HC.out
      simp [hexs] at this

end Go.Proofs.YtnfnplbojdmfmaaDoor.PathR
