import Derived.Test.YtlofiaaacepgmaaGreatDoorShelf
import Derived.Test.YtlofiaaacepgmaaGreatDoorGen
import Derived.Test.YtlofiaaacepgmaaGreatDoorReg
import Derived.Test.YtlofiaaacepgmaaGreatDoorPathQ
namespace Go.Proofs.YtlofiaaacepgmaaGreatDoor.PathW
open Go Go.RowKit Go.Proofs Go.Proofs.YtlofiaaacepgmaaGreatDoor.Sep Go.Proofs.YtlofiaaacepgmaaGreatDoor.Reg Go.Proofs.YtlofiaaacepgmaaGreatDoor.Frame Go.Proofs.YtlofiaaacepgmaaGreatDoor.PathP Go.Proofs.YtlofiaaacepgmaaGreatDoor.PathQ

/-- A call that only computes. -/
def Same (w : World) (v : Value) (e : Ending) (w' : World) : Prop := e = .returned v ∧ w' = w
theorem Same.makes {w w' : World} {v : Value} {e : Ending} (h : Same w v e w') : Makes w v e w' := by
  obtain ⟨rfl, rfl⟩ := h; exact Makes.mk0 _ _
theorem Same.eq {w w' : World} {u v : Value} {e : Ending} (h : Same w u e w') (h2 : u = v) : Same w v e w' := h2 ▸ h

theorem indexByte_none : ∀ (l : List UInt8) (c : UInt8), l.contains c = false → Lib.indexByte l c = -1
  | [], _, _ => rfl
  | b :: l, c, h => by
    simp only [List.contains_cons, Bool.or_eq_false_iff, beq_eq_false_iff_ne, ne_eq] at h
    have h1 : (b == c) = false := by simpa using fun e => h.1 e.symm
    have h2 := indexByte_none l c h.2
    simp [Lib.indexByte, h1, h2]
theorem indexByte_some : ∀ (l : List UInt8) (c : UInt8), l.contains c = true → ∃ k : Nat, Lib.indexByte l c = k ∧ l[k]? = some c ∧ k < l.length
  | [], _, h => by simp at h
  | b :: l, c, h => by
    by_cases hb : b = c
    · subst hb; exact ⟨0, by simp [Lib.indexByte], rfl, by simp⟩
    · have h1 : (b == c) = false := by simpa using hb
      have h3 : (c == b) = false := by simpa using fun e => hb e.symm
      simp only [List.contains_cons, h3, Bool.false_or] at h
      obtain ⟨k, hk, hg, hl⟩ := indexByte_some l c h
      refine ⟨k + 1, ?_, by simpa using hg, by simp; omega⟩
      have : ((k : Int) == -1) = false := by simp
      simp [Lib.indexByte, h1, hk, this]
def Found (w : World) (l : List UInt8) (c : UInt8) (e : Ending) (w' : World) : Prop := ∃ k : Nat, e = .returned (.int .i64 (k : Int)) ∧ l[k]? = some c ∧ k < l.length ∧ w' = w
theorem IndexByte_yes (l : List UInt8) (c : UInt8) (w : World) (h : l.contains c = true) : Calls Tryz.prog 46 #[.string ⟨l.toArray⟩, .int .u8 c.toNat] w (Found w l c) := by
  refine (Tryz.strings_IndexByte ⟨l.toArray⟩ c.toNat w).mono ?_
  rintro e w' ⟨rfl, rfl⟩
  obtain ⟨k, hk, hg, hl⟩ := indexByte_some l c h
  refine ⟨k, ?_, hg, hl, rfl⟩
  have : ((c.toNat : Int)).toNat.toUInt8 = c := by simp
  rw [this]
  exact congrArg _ (int_eq hk)
theorem IndexByte_no (l : List UInt8) (c : UInt8) (w : World) (h : l.contains c = false) : Calls Tryz.prog 46 #[.string ⟨l.toArray⟩, .int .u8 c.toNat] w (Same w (.int .i64 (-1))) := by
  refine (Tryz.strings_IndexByte ⟨l.toArray⟩ c.toNat w).mono ?_
  rintro e w' ⟨rfl, rfl⟩
  have : ((c.toNat : Int)).toNat.toUInt8 = c := by simp
  rw [this]
  exact ⟨congrArg _ (int_eq (indexByte_none l c h)), rfl⟩

theorem byte_class (c : UInt8) : (alnum c = true ∧ ((97 ≤ c.toNat ∧ c.toNat ≤ 122) ∨ (65 ≤ c.toNat ∧ c.toNat ≤ 90) ∨ (48 ≤ c.toNat ∧ c.toNat ≤ 57))) ∨
    (alnum c = false ∧ (c.toNat < 48 ∨ (57 < c.toNat ∧ c.toNat < 65) ∨ (90 < c.toNat ∧ c.toNat < 97) ∨ 122 < c.toNat)) := by
  have hc := c.toNat_lt
  unfold alnum
  by_cases h1 : (97 ≤ c.toNat ∧ c.toNat ≤ 122) ∨ (65 ≤ c.toNat ∧ c.toNat ≤ 90) ∨ (48 ≤ c.toNat ∧ c.toNat ≤ 57)
  · left
    refine ⟨?_, h1⟩
    simp [UInt8.le_iff_toNat_le]; omega
  · right
    refine ⟨?_, by omega⟩
    simp [UInt8.le_iff_toNat_le]; omega
theorem drop_byte (s : List UInt8) (i : Nat) (h : i < (ByteArray.mk s.toArray).size) : s.drop i = (ByteArray.mk s.toArray)[i]'h :: s.drop (i + 1) := by
  have h' : i < s.length := by simpa [ByteArray.size] using h
  rw [List.drop_eq_getElem_cons h']; rfl
theorem get_byte (s : List UInt8) (i : Nat) (h : i < (ByteArray.mk s.toArray).size) : s[i]? = some ((ByteArray.mk s.toArray)[i]'h) := by
  have h' : i < s.length := by simpa [ByteArray.size] using h
  rw [List.getElem?_eq_getElem h']; rfl

set_option maxRecDepth 100000 in
set_option maxHeartbeats 4000000 in
theorem lplain_any (s more : List UInt8) (w : World) (hs : s.length ≤ 1000000) (hm : okC more 37 = false) (hml : more.length ≤ 10) :
    Calls Tryz.prog 49 #[.string ⟨s.toArray⟩, .string ⟨more.toArray⟩] w (Same w (.bool (plainB more s))) := by
  have hadd := run_str_add (P := Tryz.prog) marks more (by simp [marks]; omega)
  simp only [marks] at hadd
  have HM := Lib.hid hm
  clear hm
  go_enter Tryz.func49, Tryz.ntmps49
  go_wp2_with fail
  go_loop [5] (fun iv => ∃ i : Nat, i ≤ s.length ∧ iv = .int .i64 i ∧ plainB more (s.drop i) = plainB more s) (fun iv => s.length - (intOf iv).toNat)
  case atStart => exact ⟨0, by omega, rfl, rfl⟩
  case round =>
    obtain ⟨i, hi, rfl, hrel⟩ := hrel
    have HR := Lib.hid hrel
    clear hrel
    by_cases hi2 : i < s.length
    · have hsz : i < (ByteArray.mk s.toArray).size := by simpa [ByteArray.size] using hi2
      have HD := Lib.hid (drop_byte s i hsz)
      have hcl := byte_class ((ByteArray.mk s.toArray)[i]'hsz)
      generalize hc : (ByteArray.mk s.toArray)[i]'hsz = c at *
      rcases hcl with ⟨hal, hint⟩ | ⟨hal, hint⟩
      · have HO : Hid (plainB more (s.drop (i + 1)) = plainB more s) := Lib.hid (by
          rw [← HR.out, HD.out, plainB_ok]; unfold okC; rw [hal]; rfl)
        clear hal
        rcases hint with ⟨h1, h2⟩ | ⟨h1, h2⟩ | ⟨h1, h2⟩
        all_goals
          go_wp2_with fail
          exact ⟨⟨i + 1, by omega, by go_num, HO.out⟩, by simp [intOf]; omega⟩
      · cases hmk : (marks ++ more).contains c
        · have hok : okC more c = false := by unfold okC; rw [hal, hmk]; rfl
          have HI := Lib.hid fun w => IndexByte_no (marks ++ more) c w hmk
          have HOK := Lib.hid hok
          clear hal hmk hok
          by_cases h37 : c = 37
          · subst h37
            have HI37 : Hid (∀ w, Calls Tryz.prog 46 #[.string ⟨(marks ++ more).toArray⟩, .int .u8 37] w (Same w (.int .i64 (-1)))) := Lib.hid fun w => HI.out w
            clear hint HI
            by_cases hi3 : i + 2 < s.length
            · have hsa : i + 1 < (ByteArray.mk s.toArray).size := by simp [ByteArray.size]; omega
              have hsb : i + 2 < (ByteArray.mk s.toArray).size := by simp [ByteArray.size]; omega
              have HDa := Lib.hid (drop_byte s (i + 1) hsa)
              have HDb := Lib.hid (drop_byte s (i + 2) hsb)
              generalize hca : (ByteArray.mk s.toArray)[i + 1]'hsa = a at *
              generalize hcb : (ByteArray.mk s.toArray)[i + 2]'hsb = b at *
              cases ha : hexs.contains a
              · have HA := Lib.hid fun w => IndexByte_no hexs a w ha
                have HF : Hid (plainB more s = false) := Lib.hid (by
                  rw [← HR.out, HD.out, plainB_no _ _ _ HOK.out (.inr (.inr (.inl (by rw [HDa.out]; exact ha))))])
                clear ha
                go_wp2_with fail
                refine (HI37.out _).mono ?_
                rintro e w' ⟨rfl, rfl⟩
                go_wp2_with fail
                refine (HA.out _).mono ?_
                rintro e w' ⟨rfl, rfl⟩
                go_wp2
                go_ret
                exact ⟨by rw [HF.out]; rfl, rfl⟩
              · have HA := Lib.hid fun w => IndexByte_yes hexs a w ha
                cases hb : hexs.contains b
                · have HB := Lib.hid fun w => IndexByte_no hexs b w hb
                  have HF : Hid (plainB more s = false) := Lib.hid (by
                    rw [← HR.out, HD.out, plainB_no _ _ _ HOK.out (.inr (.inr (.inr (by rw [HDa.out, HDb.out]; exact hb))))])
                  clear ha hb
                  go_wp2_with fail
                  refine (HI37.out _).mono ?_
                  rintro e w' ⟨rfl, rfl⟩
                  go_wp2_with fail
                  refine (HA.out _).mono ?_
                  rintro e w' ⟨k, rfl, -, -, rfl⟩
                  go_wp2_with fail
                  refine (HB.out _).mono ?_
                  rintro e w' ⟨rfl, rfl⟩
                  go_wp2
                  go_ret
                  exact ⟨by rw [HF.out]; rfl, rfl⟩
                · have HB := Lib.hid fun w => IndexByte_yes hexs b w hb
                  have HO : Hid (plainB more (s.drop (i + 3)) = plainB more s) := Lib.hid (by
                    rw [← HR.out, HD.out, HDa.out, HDb.out, plainB_pct more a b _ HM.out ha hb])
                  clear ha hb
                  go_wp2_with fail
                  refine (HI37.out _).mono ?_
                  rintro e w' ⟨rfl, rfl⟩
                  go_wp2_with fail
                  refine (HA.out _).mono ?_
                  rintro e w' ⟨k, rfl, -, -, rfl⟩
                  go_wp2_with fail
                  refine (HB.out _).mono ?_
                  rintro e w' ⟨k2, rfl, -, -, rfl⟩
                  go_wp2
                  exact ⟨⟨i + 3, by omega, int_eq (by omega), HO.out⟩, by simp [intOf]; omega⟩
            · have HF : Hid (plainB more s = false) := Lib.hid (by
                rw [← HR.out, HD.out, plainB_no _ _ _ HOK.out (.inr (.inl (by simp; omega)))])
              go_wp2_with fail
              refine (HI37.out _).mono ?_
              rintro e w' ⟨rfl, rfl⟩
              go_wp2
              go_ret
              exact ⟨by rw [HF.out]; rfl, rfl⟩
          · have HF : Hid (plainB more s = false) := Lib.hid (by rw [← HR.out, HD.out, plainB_no _ _ _ HOK.out (.inl h37)])
            have h37I : ((c.toNat : Int) == 37) = false := by
              simp only [beq_eq_false_iff_ne, ne_eq]; intro h; exact h37 (UInt8.toNat_inj.1 (by show _ = 37; omega))
            clear h37
            rcases hint with h1 | ⟨h1, h2⟩ | ⟨h1, h2⟩ | h1
            all_goals
              go_wp2_with fail
              refine (HI.out _).mono ?_
              rintro e w' ⟨rfl, rfl⟩
              go_wp2
              go_ret
              exact ⟨by rw [HF.out]; rfl, rfl⟩
        · have HO : Hid (plainB more (s.drop (i + 1)) = plainB more s) := Lib.hid (by
            rw [← HR.out, HD.out, plainB_ok]; unfold okC; rw [hmk, Bool.or_true])
          have HI := Lib.hid fun w => IndexByte_yes (marks ++ more) c w hmk
          clear hal hmk
          rcases hint with h1 | ⟨h1, h2⟩ | ⟨h1, h2⟩ | h1
          all_goals
            go_wp2_with fail
            refine (HI.out _).mono ?_
            rintro e w' ⟨k, rfl, -, -, rfl⟩
            go_wp2
            exact ⟨⟨i + 1, by omega, by go_num, HO.out⟩, by simp [intOf]; omega⟩
    · obtain rfl : i = s.length := by omega
      have HF : Hid (plainB more s = true) := Lib.hid (by rw [← HR.out, List.drop_length]; rfl)
      go_wp2
      go_ret
      exact ⟨by rw [HF.out]; rfl, rfl⟩

end Go.Proofs.YtlofiaaacepgmaaGreatDoor.PathW
