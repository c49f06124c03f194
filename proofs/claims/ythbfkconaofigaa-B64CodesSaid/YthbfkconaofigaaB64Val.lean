import Derived.Test.YthbfkconaofigaaB64Enc
import Derived.Lib.OthersKept
import Derived.Lib.RuneBytes
import Derived.Laws.RangeAny
import Derived.Deep.QuietTactic
import Derived.BigQuiet
namespace Go.Proofs.Ythbfkconaofigaa.B64Val
open Go Go.RowKit Go.Proofs Go.Proofs.Ythbfkconaofigaa.Sep Go.Proofs.Ythbfkconaofigaa.Reg Go.Proofs.Ythbfkconaofigaa.Frame Go.Proofs.Ythbfkconaofigaa.B64Law Go.Proofs.Ythbfkconaofigaa.Bld Go.Proofs.Ythbfkconaofigaa.B64Enc

abbrev letters : ByteArray := ⟨#[65, 66, 67, 68, 69, 70, 71, 72, 73, 74, 75, 76, 77, 78, 79, 80, 81, 82, 83, 84, 85, 86, 87, 88, 89, 90, 97, 98, 99, 100, 101, 102, 103, 104, 105, 106, 107, 108, 109, 110, 111, 112, 113, 114, 115, 116, 117, 118, 119, 120, 121, 122, 48, 49, 50, 51, 52, 53, 54, 55, 56, 57, 43, 47]⟩

theorem indexByte_none : ∀ (l : List UInt8) (c : UInt8), (∀ b ∈ l, b ≠ c) → Lib.indexByte l c = -1
  | [], _, _ => rfl
  | b :: l, c, h => by
    have h1 : (b == c) = false := by simpa using h b (by simp)
    have h2 := indexByte_none l c (fun x hx => h x (by simp [hx]))
    simp [Lib.indexByte, h1, h2]
theorem letters_low : ∀ b ∈ letters.data.toList, b.toNat < 128 := by decide
theorem noByte (j : Nat) (u : UInt8) (hu : 128 ≤ u.toNat) : Lib.indexByte (letters.extract j 64).data.toList ((u.toNat : Int)).toNat.toUInt8 = -1 := by
  refine indexByte_none _ _ fun b hb => ?_
  have h1 : b.toNat < 128 := by
    rw [ByteArray.data_extract, Array.toList_extract] at hb
    exact letters_low b (List.mem_of_mem_drop (List.mem_of_mem_take hb))
  have h2 : ((u.toNat : Int)).toNat.toUInt8 = u := by simp
  rw [h2]
  rintro rfl
  omega
theorem dec_letters : ∀ pos, pos < 64 → (Utf8.decode letters pos).2 = 1 ∧ (Utf8.decode letters pos).1 < 128 := by decide +kernel
set_option maxRecDepth 100000 in
set_option maxHeartbeats 1600000 in
theorem IndexRune_err (w : World) : Calls Try.prog 72 #[.string letters, .int .i32 65533] w (Makes w (.int .i64 (-1))) := by
  go_enter Try.func72, Try.ntmps72
  have h0 := (St.start w).iter letters
  go_wp2_with fail
  generalize hk : w.heap.size = k at *
  go_loopw [] (fun wr => ∃ pos : Nat, pos ≤ 64 ∧ St w wr (star (pt k (.stringIter letters pos)) emp)) (fun wr => 64 - wr.iterPos k)
  case atStart => exact ⟨0, by omega, h0⟩
  case round =>
    obtain ⟨pos, hp, hS⟩ := hrel
    have hit := hS.blk
    by_cases hp2 : pos < 64
    · have hd := dec_letters pos hp2
      have hnx : ∀ ty, (Instr.next (.pointer (some ⟨k, 0, none⟩)) true ty).run Try.prog wr = _ := fun ty => Lib.run_next_any_at wr k letters pos ty hit hp2
      have h1 := St.iterAt hS (pos + (Utf8.decode letters pos).2)
      rw [hd.1] at hnx h1
      have hne : (((Utf8.decode letters pos).1 : Int) == 65533) = false := by simp; omega
      have hd2 := hd.2
      generalize (Utf8.decode letters pos).1 = c at *
      clear hd
      go_wp2_with fail
      go_roundw
      case rel => exact ⟨pos + 1, by omega, h1⟩
      case measure =>
        simp only [World.iterPos, h1.blk, hit]
        omega
    · have hnx : ∀ ty, (Instr.next (.pointer (some ⟨k, 0, none⟩)) true ty).run Try.prog wr = _ := fun ty => Lib.run_next_end_at wr k letters pos ty hit (by exact hp2)
      have hb := hS.below
      go_wp2
      go_ret
      exact ⟨rfl, hb⟩

set_option maxRecDepth 100000 in
set_option maxHeartbeats 1600000 in
theorem IndexRune_bad (c : Int) (w : World) (hc : 128 ≤ c) (hc2 : c ≤ 2147483647) (hne : c ≠ 65533) (hv : Lib.validRune c = false) : Calls Try.prog 72 #[.string letters, .int .i32 c] w (Makes w (.int .i64 (-1))) := by
  have hne' : (c == 65533) = false := by simpa using hne
  clear hne
  go_enter Try.func72, Try.ntmps72
  go_wp2_with fail
  refine (Try.utf8_ValidRune _ _).mono ?_
  rintro e w' ⟨rfl, rfl⟩
  go_wp2
  go_ret
  exact ⟨rfl, Below.refl _ _⟩

set_option maxRecDepth 100000 in
set_option maxHeartbeats 1600000 in
theorem IndexRune_high (c : Int) (w : World) (hc : 128 ≤ c) (hc2 : c ≤ 2147483647) (hne : c ≠ 65533) (hv : Lib.validRune c = true) : Calls Try.prog 72 #[.string letters, .int .i32 c] w (Makes w (.int .i64 (-1))) := by
  have hne' : (c == 65533) = false := by simpa using hne
  clear hne
  go_enter Try.func72, Try.ntmps72
  go_wp2_with fail
  refine (Try.utf8_ValidRune _ _).mono ?_
  rintro e w' ⟨rfl, rfl⟩
  have hv' : Utf8.valid c = true := by rw [validRune_eq]; exact hv
  obtain ⟨h2, h4, hl⟩ := encode_facts c hv' hc
  have hcv := run_convert_int_string (P := Try.prog) (src := 21) (dst := 9) (k := .i32) (n := c) (hs := by kernel_rfl) (hd := Try.underlying9)
  generalize Utf8.encode c = bs at *
  have hv2 : (!Lib.validRune c) = false := by rw [hv]; rfl
  clear hv'
  clear hv hc2
  rcases (show bs.size = 2 ∨ bs.size = 3 ∨ bs.size = 4 by omega) with hsz | hsz | hsz
  · have hlt : 1 < bs.size := by omega
    have hu : 128 ≤ (bs[1]'hlt).toNat := by simpa [hsz] using hl (by omega)
    have hne1 : (((letters[1]'(by decide)).toNat : Int) != ((bs[1]'hlt).toNat : Int)) = true := by
      have : (letters[1]'(by decide)).toNat < 128 := by decide
      simp; omega
    have hbI : (bs.size : Int) - 1 = 1 := by omega
    have hno := noByte 2 (bs[1]'hlt) hu
    clear hl hsz hu
    go_wp2_with fail
    go_step3
    go_wp2_with fail
    refine wp_loop_rounds 1 ?_
    rw [rounds_succ]
    go_wp2_with fail
    go_step3
    go_wp2_with fail
    refine wp_region_canon [0, 1, 2, 3, 4, 5, 6] (by kernel_rfl) (by kernel_rfl) ?_
    simp only [pickOps, nthOp]
    go_wp2_with fail
    simp only [Only]
    go_wp2_with fail
    refine wp_region_canon [0, 1, 4, 5, 6, 2, 3, 7, 8] (by kernel_rfl) (by kernel_rfl) ?_
    simp only [pickOps, nthOp]
    go_wp2_with fail
    refine (Try.strings_IndexByte _ _ _).mono ?_
    rintro e w' ⟨rfl, rfl⟩
    rw [hno]
    go_wp2_with fail
    simp only [Only]
    go_wp2_with fail
    rw [Exit.noGoto_ret]
    go_wp2_with fail
    rw [Exit.noGoto_ret]
    go_ret
    exact ⟨rfl, (St.drewN (St.start w') 2).below⟩
  · have hlt : 2 < bs.size := by omega
    have hu : 128 ≤ (bs[2]'hlt).toNat := by simpa [hsz] using hl (by omega)
    have hne1 : (((letters[2]'(by decide)).toNat : Int) != ((bs[2]'hlt).toNat : Int)) = true := by
      have : (letters[2]'(by decide)).toNat < 128 := by decide
      simp; omega
    have hbI : (bs.size : Int) - 1 = 2 := by omega
    have hno := noByte 3 (bs[2]'hlt) hu
    clear hl hsz hu
    go_wp2_with fail
    go_step3
    go_wp2_with fail
    refine wp_loop_rounds 1 ?_
    rw [rounds_succ]
    go_wp2_with fail
    go_step3
    go_wp2_with fail
    refine wp_region_canon [0, 1, 2, 3, 4, 5, 6] (by kernel_rfl) (by kernel_rfl) ?_
    simp only [pickOps, nthOp]
    go_wp2_with fail
    simp only [Only]
    go_wp2_with fail
    refine wp_region_canon [0, 1, 4, 5, 6, 2, 3, 7, 8] (by kernel_rfl) (by kernel_rfl) ?_
    simp only [pickOps, nthOp]
    go_wp2_with fail
    refine (Try.strings_IndexByte _ _ _).mono ?_
    rintro e w' ⟨rfl, rfl⟩
    rw [hno]
    go_wp2_with fail
    simp only [Only]
    go_wp2_with fail
    rw [Exit.noGoto_ret]
    go_wp2_with fail
    rw [Exit.noGoto_ret]
    go_ret
    exact ⟨rfl, (St.drewN (St.start w') 2).below⟩
  · have hlt : 3 < bs.size := by omega
    have hu : 128 ≤ (bs[3]'hlt).toNat := by simpa [hsz] using hl (by omega)
    have hne1 : (((letters[3]'(by decide)).toNat : Int) != ((bs[3]'hlt).toNat : Int)) = true := by
      have : (letters[3]'(by decide)).toNat < 128 := by decide
      simp; omega
    have hbI : (bs.size : Int) - 1 = 3 := by omega
    have hno := noByte 4 (bs[3]'hlt) hu
    clear hl hsz hu
    go_wp2_with fail
    go_step3
    go_wp2_with fail
    refine wp_loop_rounds 1 ?_
    rw [rounds_succ]
    go_wp2_with fail
    go_step3
    go_wp2_with fail
    refine wp_region_canon [0, 1, 2, 3, 4, 5, 6] (by kernel_rfl) (by kernel_rfl) ?_
    simp only [pickOps, nthOp]
    go_wp2_with fail
    simp only [Only]
    go_wp2_with fail
    refine wp_region_canon [0, 1, 4, 5, 6, 2, 3, 7, 8] (by kernel_rfl) (by kernel_rfl) ?_
    simp only [pickOps, nthOp]
    go_wp2_with fail
    refine (Try.strings_IndexByte _ _ _).mono ?_
    rintro e w' ⟨rfl, rfl⟩
    rw [hno]
    go_wp2_with fail
    simp only [Only]
    go_wp2_with fail
    rw [Exit.noGoto_ret]
    go_wp2_with fail
    rw [Exit.noGoto_ret]
    go_ret
    exact ⟨rfl, (St.drewN (St.start w') 2).below⟩

end Go.Proofs.Ythbfkconaofigaa.B64Val
