import Derived.Test.YtldobldhmodjlaaBufLaw
import Derived.Lib.IndexMore
namespace Go.Proofs.Ytldobldhmodjlaa.BufFin
open Go Go.RowKit Go.Proofs Go.Proofs.Ytldobldhmodjlaa.Sep Go.Proofs.Ytldobldhmodjlaa.Reg Go.Proofs.Ytldobldhmodjlaa.Buf Go.Proofs.Ytldobldhmodjlaa.Frame Go.Proofs.Ytldobldhmodjlaa.BufFind Go.Proofs.Ytldobldhmodjlaa.BufLaw

/-- What is not there is found behind. -/
theorem behind (s part : List UInt8) (h : Lib.index s part = -1) : ∃ k : Nat, Lib.index (s ++ part) part = k ∧ (s.length : Int) - part.length < k ∧ k ≤ s.length := by
  have hno : ∀ j, j ≤ s.length → Lib.occAt s part j = false := by
    rcases Lib.index_spec s part with ⟨-, h2⟩ | ⟨i, h2, -⟩
    · exact h2
    · omega
  have hend : Lib.occAt (s ++ part) part s.length = true := by simp [Lib.occAt]
  rcases Lib.index_spec (s ++ part) part with ⟨-, h2⟩ | ⟨i, h2, h3, h4, h5⟩
  · have := h2 s.length (by simp)
    rw [hend] at this; cases this
  · have hi : i ≤ s.length := by
      rcases Nat.lt_or_ge s.length i with hlt | hge
      · have := h5 _ hlt; rw [hend] at this; cases this
      · exact hge
    refine ⟨i, h2, ?_, hi⟩
    rcases Int.lt_or_le ((s.length : Int) - part.length) i with hlt | hge
    · exact hlt
    · exfalso
      have h6 : i + part.length ≤ s.length := by omega
      have h7 := hno i hi
      rw [Lib.occAt_iff_take _ _ _ (by simp; omega)] at h4
      rw [Lib.occAt_iff_take _ _ _ h6] at h7
      rw [List.drop_append_of_le_length hi, List.take_append_of_le_length (by simp; omega)] at h4
      rw [h4] at h7; cases h7

/-- What is found stands there. -/
theorem stands (s part : List UInt8) (h : 0 ≤ Lib.index s part) : ∃ n : Nat, Lib.index s part = n ∧ n + part.length ≤ s.length ∧ (s.drop n).take part.length = part ∧ Lib.index (s.drop n) part = 0 ∧ (n = 0 ∨ n < s.length) := by
  rcases Lib.index_spec s part with ⟨h1, -⟩ | ⟨i, h2, h3, h4, h5⟩
  · omega
  · have hr := Lib.index_room s part h
    rw [h2] at hr
    have hr' : i + part.length ≤ s.length := by omega
    refine ⟨i, h2, hr', ?_, ?_, ?_⟩
    · rw [Lib.occAt_iff_take _ _ _ hr'] at h4
      simpa using h4
    · refine Lib.index_first (i := 0) (Nat.zero_le _) ?_ (fun j hj => absurd hj (Nat.not_lt_zero _))
      simpa [Lib.occAt] using h4
    · rcases Nat.eq_zero_or_pos i with h0 | h0
      · exact .inl h0
      · right
        rcases part with _ | ⟨c, t⟩
        · rw [Lib.index_empty] at h2; omega
        · simp at hr'; omega

set_option maxRecDepth 100000 in
set_option maxHeartbeats 1600000 in
theorem finds_any {W w : World} {R : Asn} (hm : MaxLen W) (s part : List UInt8) (h : St W w R) : Calls Try.prog 12 #[.string ⟨s.toArray⟩, .string ⟨part.toArray⟩] w (Law W R) := by
  go_enter Try.func12, Try.ntmps12
  go_wp2_with fail
  refine (awake_any hm h).mono ?_
  rintro e w0 ⟨rfl, h0⟩
  by_cases hs : 1000 < s.length
  · go_wp2
    go_ret
    exact ⟨rfl, h0⟩
  by_cases hp : 1000 < part.length
  · go_wp2
    go_ret
    exact ⟨rfl, h0⟩
  have hadd := run_str_add (P := Try.prog) [97, 104, 101, 97, 100] s (by simp; omega)
  have HW := Lib.hid fun (w : World) (b : Nat) (h : St W w (star (BufA b true 3000 []) R)) => (show Calls Try.prog 32 #[.pointer (some ⟨b, 0, none⟩), .string ⟨([97, 104, 101, 97, 100] ++ s).toArray⟩] w (BPost W R b 3000 ([97, 104, 101, 97, 100] ++ s) (.int .i64 (5 + s.length : Nat))) from by
    refine (Buf.Write_any ([97, 104, 101, 97, 100] ++ s) (by simp; omega) h).mono ?_
    rintro e w' ⟨rfl, h'⟩
    have e1 : min ([97, 104, 101, 97, 100] ++ s).length (3000 - ([] : List UInt8).length) = 5 + s.length := by simp; omega
    have e2 : ([] : List UInt8) ++ ([97, 104, 101, 97, 100] ++ s).take (3000 - ([] : List UInt8).length) = [97, 104, 101, 97, 100] ++ s := by rw [List.nil_append, List.take_of_length_le (by simp; omega)]
    rw [e1]; rw [e2] at h'
    exact ⟨rfl, h'⟩)
  have HF := Lib.hid fun (w : World) (b : Nat) (h : St W w (star (BufA b true 3000 s) R)) => (show Calls Try.prog 33 #[.pointer (some ⟨b, 0, none⟩), .string ⟨part.toArray⟩] w (BPost W R b 3000 s (.int .i64 (Lib.index s part))) from BufFind.Find_any hm part (by omega) h)
  go_wp2_with fail
  refine (Buf.New_St 3000 (by decide) h0).mono ?_
  rintro e w1 ⟨b, rfl, h1⟩
  go_wp2_with fail
  refine (HW.out _ _ h1).mono ?_
  rintro e w2 ⟨rfl, h2⟩
  go_wp2_with fail
  refine (show Calls Try.prog 34 #[.pointer (some ⟨b, 0, none⟩), .int .i64 5] w2 (BPost W R b 3000 s (.string ⟨#[97, 104, 101, 97, 100]⟩)) from Buf.Read_any 5 h2).mono ?_
  rintro e w3 ⟨rfl, h3⟩
  go_wp2_with fail
  rcases (show Lib.index s part = -1 ∨ 0 ≤ Lib.index s part from by have := Lib.index_ge s part; omega) with hn | hn
  · obtain ⟨k, hk1, hk2, hk3⟩ := behind s part hn
    simp only [hn] at HF
    have HW2 := Lib.hid fun (w : World) (h : St W w (star (BufA b true 3000 s) R)) => (show Calls Try.prog 32 #[.pointer (some ⟨b, 0, none⟩), .string ⟨part.toArray⟩] w (BPost W R b 3000 (s ++ part) (.int .i64 (part.length : Nat))) from by
      refine (Buf.Write_any part (by omega) h).mono ?_
      rintro e w' ⟨rfl, h'⟩
      rw [show min part.length (3000 - s.length) = part.length from by omega]
      rw [List.take_of_length_le (by omega)] at h'
      exact ⟨rfl, h'⟩)
    have HF2 := Lib.hid fun (w : World) (h : St W w (star (BufA b true 3000 (s ++ part)) R)) => (show Calls Try.prog 33 #[.pointer (some ⟨b, 0, none⟩), .string ⟨part.toArray⟩] w (BPost W R b 3000 (s ++ part) (.int .i64 k)) from hk1 ▸ BufFind.Find_any hm part (by omega) h)
    clear hk1 hn hadd
    refine (HF.out _ _ h3).mono ?_
    rintro e w4 ⟨rfl, h4⟩
    go_wp2_with fail
    refine (HW2.out _ h4).mono ?_
    rintro e w5 ⟨rfl, h5⟩
    go_wp2_with fail
    refine (HF2.out _ h5).mono ?_
    rintro e w6 ⟨rfl, h6⟩
    go_wp2
    go_ret
    exact ⟨rfl, h6.right⟩
  · obtain ⟨n, hn1, hn2, hn3, hn4, hn5⟩ := stands s part hn
    simp only [hn1] at HF
    have HR := Lib.hid fun (w : World) (h : St W w (star (BufA b true 3000 s) R)) => (show Calls Try.prog 34 #[.pointer (some ⟨b, 0, none⟩), .int .i64 n] w (BPost W R b 3000 (s.drop n) (.string ⟨(s.take n).toArray⟩)) from Buf.Read_any n h)
    have HP := Lib.hid fun (w : World) (h : St W w (star (BufA b true 3000 (s.drop n)) R)) => (show Calls Try.prog 40 #[.pointer (some ⟨b, 0, none⟩), .int .i64 part.length] w (Quiet w (.string ⟨part.toArray⟩)) from (Buf.Peek_any part.length h).mono fun e w' q => q.eq (by rw [show peekN (part.length : Int) (s.drop n) = part from hn3]))
    have HF2 := Lib.hid fun (w : World) (h : St W w (star (BufA b true 3000 (s.drop n)) R)) => (show Calls Try.prog 33 #[.pointer (some ⟨b, 0, none⟩), .string ⟨part.toArray⟩] w (BPost W R b 3000 (s.drop n) (.int .i64 0)) from (hn4 ▸ BufFind.Find_any hm part (by omega) h))
    have hstr := run_str_h (P := Try.prog) 9 Try.underlying9 s (n : Int) n rfl (by omega)
    have hd5 : n = 0 ∨ (0 < n ∧ n < s.length) := by omega
    clear hn1 hn hn3 hn4 hn5 hadd
    refine (HF.out _ _ h3).mono ?_
    rintro e w4 ⟨rfl, h4⟩
    go_wp2_with fail
    refine (HR.out _ h4).mono ?_
    rintro e w5 ⟨rfl, h5⟩
    go_wp2_with fail
    refine (HP.out _ h5).mono ?_
    rintro e w6 hq
    have h6 := h5.quiet hq
    obtain ⟨rfl, -⟩ := hq
    go_wp2_with fail
    refine (HF2.out _ h6).mono ?_
    rintro e w7 ⟨rfl, h7⟩
    rcases hd5 with rfl | ⟨hd6, hd7⟩
    · go_wp2
      go_ret
      exact ⟨rfl, h7.right⟩
    · go_wp2
      go_ret
      exact ⟨rfl, h7.right⟩
theorem finds_walk (s : List UInt8) (_ : (⟨s.toArray⟩ : ByteArray).size ≤ maxLen) (part : List UInt8) (_ : (⟨part.toArray⟩ : ByteArray).size ≤ maxLen) {W : World} (hm : MaxLen W) :
    Calls Try.prog 12 #[.string ⟨s.toArray⟩, .string ⟨part.toArray⟩] W (Law W emp) := finds_any hm s part (St.start W)

end Go.Proofs.Ytldobldhmodjlaa.BufFin
