import Derived.Test.YtcjlbimmplejjaaGreatDoorHeld
import Derived.Test.YtcjlbimmplejjaaGreatDoorScB
import Derived.Test.YtcjlbimmplejjaaGreatDoorScX
namespace Go.Proofs.YtcjlbimmplejjaaGreatDoor.ScI
open Go Go.RowKit Go.Proofs Go.Proofs.YtcjlbimmplejjaaGreatDoor.Sep Go.Proofs.YtcjlbimmplejjaaGreatDoor.Reg Go.Proofs.YtcjlbimmplejjaaGreatDoor.Frame Go.Proofs.YtcjlbimmplejjaaGreatDoor.WdP Go.Proofs.YtcjlbimmplejjaaGreatDoor.WdT Go.Proofs.YtcjlbimmplejjaaGreatDoor.WdN Go.Proofs.YtcjlbimmplejjaaGreatDoor.ScP Go.Proofs.YtcjlbimmplejjaaGreatDoor.ScQ Go.Proofs.YtcjlbimmplejjaaGreatDoor.ScT Go.Proofs.YtcjlbimmplejjaaGreatDoor.ScB Go.Proofs.YtcjlbimmplejjaaGreatDoor.ScA Go.Proofs.YtcjlbimmplejjaaGreatDoor.ScE Go.Proofs.YtcjlbimmplejjaaGreatDoor.ScX Go.Proofs.YtcjlbimmplejjaaGreatDoor.Held

def fourV (c : UInt8) : Int := if c = 10 then 0 else if c = 13 then 1 else if c = 34 then 2 else if c = 92 then 3 else -1
theorem four2_all : ∀ n, n < 256 → Lib.indexByte [10, 13, 34, 92] (UInt8.ofNat n) = fourV (UInt8.ofNat n) := by decide +kernel
theorem four2_eq (c : UInt8) : Lib.indexByte [10, 13, 34, 92] c = fourV c := by
  have := four2_all c.toNat (by have := c.toNat_lt; omega)
  simpa using this
theorem and_all : ∀ n, n < 256 → Go.bits BinOp.and .u8 ((n : Nat) : Int) 15 = ((n % 16 : Nat) : Int) := by decide +kernel
theorem get_at (s : List UInt8) (i : Nat) (h : i < (ByteArray.mk s.toArray).size) : s[i]? = some ((ByteArray.mk s.toArray)[i]'h) := by
  have h' : i < s.length := by simpa [ByteArray.size] using h
  rw [List.getElem?_eq_getElem h']; rfl
theorem quoteB_len (c : UInt8) : (quoteB c).length ≤ 4 := by
  unfold quoteB
  split
  · decide
  · split
    · decide
    · split
      · decide
      · split
        · decide
        · split <;> simp
theorem flat_len : ∀ s : Tx, (s.flatMap quoteB).length ≤ 4 * s.length
  | [] => by simp
  | c :: s => by
    have := flat_len s
    have := quoteB_len c
    rw [List.flatMap_cons, List.length_append, List.length_cons]; omega
def tr11 : Tr := .plain 0 (.plain 1 (.plain 2 (.plain 3 (.plain 4 (.plain 5 (.plain 6 (.one 7 (.one 8 (.plain 9 (.done))))))))))
set_option maxRecDepth 100000 in
set_option maxHeartbeats 16000000 in
theorem Quote_any {W w : World} {R : Asn} (s : Tx) (hs : s.length ≤ 1000000) (h : St W w R) : Calls Tryz.prog 15 #[.string ⟨s.toArray⟩] w (RPst W (.string ⟨(quote s).toArray⟩) R) := by
  obtain ⟨i5, hi5, hy0, hy1, hy2⟩ := info_parts info5
  have h1 := h.alloc (.cells #[.int .u8 34] 5 (0, 0))
  obtain ⟨qb, hqb⟩ : ∃ z, w.heap.size = z := ⟨_, rfl⟩
  rw [hqb] at h1
  clear h
  go_enter Tryz.func15, Tryz.ntmps15
  go_upto_region 2 with fail
  clear hqb
  generalize w.alloc (.cells #[.int .u8 34] 5 (0, 0)) = w1 at *
  have h2 : St W w1 (star (Row 5 1 (.slice (some ⟨qb, 0, none⟩) 1 1) (([34] : Tx).length) (bytesV ([34]))) R) := St.mkRow (size := 1) (n := 1) (cap := 1) (xs := bytesV [34]) h1 (Nat.le_refl _) (by unfold maxLen; omega) rfl rfl
  clear h1
  go_wp2_with fail
  go_loopw [3, 10] (fun bv iv wr => ∃ (i : Nat) (acc : Tx) (va : Option Addr) (vc : Nat), i ≤ s.length ∧ iv = .int .i64 i ∧ bv = .slice va acc.length vc ∧ Hid (acc = 34 :: (s.take i).flatMap quoteB) ∧ St W wr (star (Row 5 1 (.slice va acc.length vc) (acc.length) (bytesV (acc))) R)) (fun _ iv _ => s.length - (intOf iv).toNat)
  case atStart => exact ⟨0, [34], some ⟨qb, 0, none⟩, 1, Nat.zero_le _, rfl, rfl, Lib.hid rfl, h2⟩
  case round =>
    obtain ⟨i, acc, va, vc, hi, rfl, rfl, HA, hS⟩ := hrel
    clear h2
    have hal : acc.length ≤ 4000001 := by
      have h5 := flat_len (s.take i)
      rw [HA.out, List.length_cons]
      rw [List.length_take] at h5; omega
    by_cases hin : i < s.length
    · have hiI : (i : Int) < s.length := by omega
      have hsz : i < (ByteArray.mk s.toArray).size := by simpa [ByteArray.size] using hin
      have HGt := Lib.hid (get_at s i hsz)
      generalize hc : (ByteArray.mk s.toArray)[i]'hsz = c at *
      have HNX : Hid (acc ++ quoteB c = 34 :: (s.take (i + 1)).flatMap quoteB) := Lib.hid (by
        rw [List.take_add_one, HGt.out, List.flatMap_append, HA.out]; simp)
      have HI := Lib.hid fun w => IB_any ⟨#[10, 13, 34, 92]⟩ c (fourV c) (four2_eq c) w
      by_cases g0 : c = 10
      · subst g0
        have hv : fourV 10 = 0 := by rfl
        rw [hv] at HI
        have hA := hS.alloc (.cells #[.int .u8 92, .int .u8 110] 5 (0, 0))
        have hB := St.mkRow (size := 1) (n := 2) (cap := 2) (xs := bytesV [92, 110]) hA (Nat.le_refl _) (by unfold maxLen; omega) rfl rfl
        have hone := hB.rowSl
        have hrow := hB.swap
        clear hA hB
        go_wp2_with fail
        refine (HI.out _).mono ?_
        rintro e wr ⟨rfl, rfl⟩
        go_wp2_with (at_builtin; refine wpList_append_Sl rfl (.tmp 25) (.tmp 28) 67 rfl 5 i5 _ 1 1 Tryz.underlying67 hi5 hy0 hy1 hy2 rfl _ acc.length (bytesV acc) rfl hrow _ 2 (bytesV [92, 110]) rfl hone (bytesV_one _) (by unfold maxLen; omega) ?_ ?_)
        · omega
        intro v9 w9 h9 _
        obtain ⟨a9, c9, rfl⟩ : ∃ a c, v9 = .slice a (acc.length + 2) c := by obtain ⟨_, a, c, hv, _⟩ := h9.rowSl; exact ⟨a, c, hv⟩
        have hQ : quoteB 10 = [92, 110] := rfl
        have HN2 : Hid (acc ++ [92, 110] = 34 :: (s.take (i + 1)).flatMap quoteB) := Lib.hid (by rw [← hQ]; exact HNX.out)
        have hl : (acc ++ [92, 110]).length = acc.length + 2 := by rw [List.length_append]; rfl
        have h10 : St W w9 (star (Row 5 1 (.slice a9 (acc.length + 2) c9) (acc.length + 2) (bytesV (acc ++ [92, 110]))) R) := by rw [bytesV_append]; exact h9.swap.right
        obtain ⟨acc2, ha2⟩ : ∃ a, acc ++ [92, 110] = a := ⟨_, rfl⟩
        rw [ha2] at h10 hl HN2
        rw [← hl] at h10 ⊢
        clear h9 hrow hone hS ha2 hl hQ
        go_wp2_with fail
        exact ⟨⟨i + 1, acc2, a9, c9, hin, by go_num, rfl, HN2, h10⟩, by simp [intOf]; omega⟩
      by_cases g1 : c = 13
      · subst g1
        have hv : fourV 13 = 1 := by rfl
        rw [hv] at HI
        have hA := hS.alloc (.cells #[.int .u8 92, .int .u8 114] 5 (0, 0))
        have hB := St.mkRow (size := 1) (n := 2) (cap := 2) (xs := bytesV [92, 114]) hA (Nat.le_refl _) (by unfold maxLen; omega) rfl rfl
        have hone := hB.rowSl
        have hrow := hB.swap
        clear hA hB
        go_wp2_with fail
        refine (HI.out _).mono ?_
        rintro e wr ⟨rfl, rfl⟩
        go_wp2_with (at_builtin; refine wpList_append_Sl rfl (.tmp 25) (.tmp 28) 67 rfl 5 i5 _ 1 1 Tryz.underlying67 hi5 hy0 hy1 hy2 rfl _ acc.length (bytesV acc) rfl hrow _ 2 (bytesV [92, 114]) rfl hone (bytesV_one _) (by unfold maxLen; omega) ?_ ?_)
        · omega
        intro v9 w9 h9 _
        obtain ⟨a9, c9, rfl⟩ : ∃ a c, v9 = .slice a (acc.length + 2) c := by obtain ⟨_, a, c, hv, _⟩ := h9.rowSl; exact ⟨a, c, hv⟩
        have hQ : quoteB 13 = [92, 114] := rfl
        have HN2 : Hid (acc ++ [92, 114] = 34 :: (s.take (i + 1)).flatMap quoteB) := Lib.hid (by rw [← hQ]; exact HNX.out)
        have hl : (acc ++ [92, 114]).length = acc.length + 2 := by rw [List.length_append]; rfl
        have h10 : St W w9 (star (Row 5 1 (.slice a9 (acc.length + 2) c9) (acc.length + 2) (bytesV (acc ++ [92, 114]))) R) := by rw [bytesV_append]; exact h9.swap.right
        obtain ⟨acc2, ha2⟩ : ∃ a, acc ++ [92, 114] = a := ⟨_, rfl⟩
        rw [ha2] at h10 hl HN2
        rw [← hl] at h10 ⊢
        clear h9 hrow hone hS ha2 hl hQ
        go_wp2_with fail
        exact ⟨⟨i + 1, acc2, a9, c9, hin, by go_num, rfl, HN2, h10⟩, by simp [intOf]; omega⟩
      by_cases g2 : c = 34
      · subst g2
        have hv : fourV 34 = 2 := by rfl
        rw [hv] at HI
        have hA := hS.alloc (.cells #[.int .u8 92, .int .u8 34] 5 (0, 0))
        have hB := St.mkRow (size := 1) (n := 2) (cap := 2) (xs := bytesV [92, 34]) hA (Nat.le_refl _) (by unfold maxLen; omega) rfl rfl
        have hone := hB.rowSl
        have hrow := hB.swap
        clear hA hB
        go_wp2_with fail
        refine (HI.out _).mono ?_
        rintro e wr ⟨rfl, rfl⟩
        go_wp2_with (at_builtin; refine wpList_append_Sl rfl (.tmp 25) (.tmp 28) 67 rfl 5 i5 _ 1 1 Tryz.underlying67 hi5 hy0 hy1 hy2 rfl _ acc.length (bytesV acc) rfl hrow _ 2 (bytesV [92, 34]) rfl hone (bytesV_one _) (by unfold maxLen; omega) ?_ ?_)
        · omega
        intro v9 w9 h9 _
        obtain ⟨a9, c9, rfl⟩ : ∃ a c, v9 = .slice a (acc.length + 2) c := by obtain ⟨_, a, c, hv, _⟩ := h9.rowSl; exact ⟨a, c, hv⟩
        have hQ : quoteB 34 = [92, 34] := rfl
        have HN2 : Hid (acc ++ [92, 34] = 34 :: (s.take (i + 1)).flatMap quoteB) := Lib.hid (by rw [← hQ]; exact HNX.out)
        have hl : (acc ++ [92, 34]).length = acc.length + 2 := by rw [List.length_append]; rfl
        have h10 : St W w9 (star (Row 5 1 (.slice a9 (acc.length + 2) c9) (acc.length + 2) (bytesV (acc ++ [92, 34]))) R) := by rw [bytesV_append]; exact h9.swap.right
        obtain ⟨acc2, ha2⟩ : ∃ a, acc ++ [92, 34] = a := ⟨_, rfl⟩
        rw [ha2] at h10 hl HN2
        rw [← hl] at h10 ⊢
        clear h9 hrow hone hS ha2 hl hQ
        go_wp2_with fail
        exact ⟨⟨i + 1, acc2, a9, c9, hin, by go_num, rfl, HN2, h10⟩, by simp [intOf]; omega⟩
      by_cases g3 : c = 92
      · subst g3
        have hv : fourV 92 = 3 := by rfl
        rw [hv] at HI
        have hA := hS.alloc (.cells #[.int .u8 92, .int .u8 92] 5 (0, 0))
        have hB := St.mkRow (size := 1) (n := 2) (cap := 2) (xs := bytesV [92, 92]) hA (Nat.le_refl _) (by unfold maxLen; omega) rfl rfl
        have hone := hB.rowSl
        have hrow := hB.swap
        clear hA hB
        go_wp2_with fail
        refine (HI.out _).mono ?_
        rintro e wr ⟨rfl, rfl⟩
        go_wp2_with (at_builtin; refine wpList_append_Sl rfl (.tmp 25) (.tmp 28) 67 rfl 5 i5 _ 1 1 Tryz.underlying67 hi5 hy0 hy1 hy2 rfl _ acc.length (bytesV acc) rfl hrow _ 2 (bytesV [92, 92]) rfl hone (bytesV_one _) (by unfold maxLen; omega) ?_ ?_)
        · omega
        intro v9 w9 h9 _
        obtain ⟨a9, c9, rfl⟩ : ∃ a c, v9 = .slice a (acc.length + 2) c := by obtain ⟨_, a, c, hv, _⟩ := h9.rowSl; exact ⟨a, c, hv⟩
        have hQ : quoteB 92 = [92, 92] := rfl
        have HN2 : Hid (acc ++ [92, 92] = 34 :: (s.take (i + 1)).flatMap quoteB) := Lib.hid (by rw [← hQ]; exact HNX.out)
        have hl : (acc ++ [92, 92]).length = acc.length + 2 := by rw [List.length_append]; rfl
        have h10 : St W w9 (star (Row 5 1 (.slice a9 (acc.length + 2) c9) (acc.length + 2) (bytesV (acc ++ [92, 92]))) R) := by rw [bytesV_append]; exact h9.swap.right
        obtain ⟨acc2, ha2⟩ : ∃ a, acc ++ [92, 92] = a := ⟨_, rfl⟩
        rw [ha2] at h10 hl HN2
        rw [← hl] at h10 ⊢
        clear h9 hrow hone hS ha2 hl hQ
        go_wp2_with fail
        exact ⟨⟨i + 1, acc2, a9, c9, hin, by go_num, rfl, HN2, h10⟩, by simp [intOf]; omega⟩
      have hv : fourV c = -1 := by unfold fourV; rw [if_neg g0, if_neg g1, if_neg g2, if_neg g3]
      rw [hv] at HI
      by_cases g4 : c.toNat < 32 ∨ 126 < c.toNat
      · have hqb : quoteB c = [92, 120, hexD.getD (c.toNat / 16) 0, hexD.getD (c.toNat % 16) 0] := by unfold quoteB; rw [if_neg g0, if_neg g1, if_neg g2, if_neg g3, if_pos g4]
        have hlt := c.toNat_lt
        have hh1 : c.toNat / 16 < 16 := by omega
        have hh2 : c.toNat % 16 < 16 := by omega
        have hcut : (decide ((c.toNat : Int) < 32) || decide ((126 : Int) < (c.toNat : Int))) = true := by
          rcases g4 with h | h
          · rw [decide_eq_true (show (c.toNat : Int) < 32 by omega)]; rfl
          · rw [decide_eq_true (show (126 : Int) < (c.toNat : Int) by omega)]; simp
        obtain ⟨k, hk⟩ : ∃ k, c.toNat / 16 = k := ⟨_, rfl⟩
        obtain ⟨m, hm⟩ : ∃ m, c.toNat % 16 = m := ⟨_, rfl⟩
        rw [hk, hm] at hqb
        rw [hk] at hh1
        rw [hm] at hh2
        have hkI : (c.toNat : Int) / 16 = (k : Int) := by omega
        have hmI : Go.bits BinOp.and .u8 (c.toNat : Int) 15 = (m : Int) := by rw [and_all c.toNat hlt]; omega
        have hk16 : k = 0 ∨ k = 1 ∨ k = 2 ∨ k = 3 ∨ k = 4 ∨ k = 5 ∨ k = 6 ∨ k = 7 ∨ k = 8 ∨ k = 9 ∨ k = 10 ∨ k = 11 ∨ k = 12 ∨ k = 13 ∨ k = 14 ∨ k = 15 := by omega
        have hm16 : m = 0 ∨ m = 1 ∨ m = 2 ∨ m = 3 ∨ m = 4 ∨ m = 5 ∨ m = 6 ∨ m = 7 ∨ m = 8 ∨ m = 9 ∨ m = 10 ∨ m = 11 ∨ m = 12 ∨ m = 13 ∨ m = 14 ∨ m = 15 := by omega
        obtain ⟨dk, hdk⟩ : ∃ d, hexD.getD k 0 = d := ⟨_, rfl⟩
        obtain ⟨dm, hdm⟩ : ∃ d, hexD.getD m 0 = d := ⟨_, rfl⟩
        rw [hdk, hdm] at hqb
        have HDK := Lib.hid hdk
        have HDM := Lib.hid hdm
        clear hdk hdm
        have HQB := Lib.hid hqb
        have HK := Lib.hid hk16
        have HM := Lib.hid hm16
        clear hk hm hqb hk16 hm16
        rcases g4 with g5 | g5
        · have hlo : (c.toNat : Int) < 32 := by omega
          go_wp2_with fail
          refine (HI.out _).mono ?_
          rintro e wr ⟨rfl, rfl⟩
          go_upto_region 11 with fail
          refine Go.Proofs.YtcjlbimmplejjaaGreatDoor.Held.wp_region_held (fun _ => True) [] tr11 (by kernel_rfl) (by kernel_rfl) trivial ?_
          have hd := hS.drew
          clear hS hlo
          generalize wr.drew = w4 at *
          unfold tr11
          refine tr_plain (.slice va acc.length vc) rfl ?_ (by simp only [nthOp, Act.put, List.setIfInBounds_toArray, List.set_cons_succ, List.set_cons_zero]; rfl) ?_
          · exact fun _ => rfl
          refine tr_plain (.int .u8 c.toNat) rfl ?_ (by simp only [nthOp, Act.put, List.setIfInBounds_toArray, List.set_cons_succ, List.set_cons_zero]; rfl) ?_
          · exact fun _ => rfl
          refine tr_plain (.int .u8 (k : Nat)) rfl ?_ (by simp only [nthOp, Act.put, List.setIfInBounds_toArray, List.set_cons_succ, List.set_cons_zero]; rfl) ?_
          · (intro w'; simp only [nthOp]; go_simp)
          refine tr_plain (.int .u8 dk.toNat) rfl ?_ (by simp only [nthOp, Act.put, List.setIfInBounds_toArray, List.set_cons_succ, List.set_cons_zero]; rfl) ?_
          · (intro w'; simp only [nthOp]; rcases HK.out with rfl | rfl | rfl | rfl | rfl | rfl | rfl | rfl | rfl | rfl | rfl | rfl | rfl | rfl | rfl | rfl <;> (go_simp; rw [← HDK.out]; rfl))
          refine tr_plain (.int .u8 c.toNat) rfl ?_ (by simp only [nthOp, Act.put, List.setIfInBounds_toArray, List.set_cons_succ, List.set_cons_zero]; rfl) ?_
          · exact fun _ => rfl
          refine tr_plain (.int .u8 (m : Nat)) rfl ?_ (by simp only [nthOp, Act.put, List.setIfInBounds_toArray, List.set_cons_succ, List.set_cons_zero]; rfl) ?_
          · (intro w'; simp only [nthOp]; go_simp)
          refine tr_plain (.int .u8 dm.toNat) rfl ?_ (by simp only [nthOp, Act.put, List.setIfInBounds_toArray, List.set_cons_succ, List.set_cons_zero]; rfl) ?_
          · (intro w'; simp only [nthOp]; rcases HM.out with rfl | rfl | rfl | rfl | rfl | rfl | rfl | rfl | rfl | rfl | rfl | rfl | rfl | rfl | rfl | rfl <;> (go_simp; rw [← HDM.out]; rfl))
          have hA := hd.alloc (.cells #[.int .u8 92, .int .u8 120, .int .u8 dk.toNat, .int .u8 dm.toNat] 5 (0, 0))
          have hB := St.mkRow (size := 1) (n := 4) (cap := 4) (xs := bytesV [92, 120, dk, dm]) hA (Nat.le_refl _) (by unfold maxLen; omega) rfl rfl
          obtain ⟨fb, hfb⟩ : ∃ z, w4.heap.size = z := ⟨_, rfl⟩
          rw [hfb] at hB
          clear hd hA
          refine tr_one ?_
          simp only [nthOp]
          go_wp2_with fail
          simp only [Reg.Next]
          refine ⟨fun _ => trivial, ?_⟩
          clear hfb
          generalize w4.alloc (.cells #[.int .u8 92, .int .u8 120, .int .u8 dk.toNat, .int .u8 dm.toNat] 5 (0, 0)) = w5 at *
          have hone := hB.rowSl
          have hrow := hB.swap
          clear hB
          refine tr_one ?_
          simp only [nthOp]
          go_wp2_with (at_builtin; refine wpList_append_Sl rfl (.tmp 37) (.tmp 44) 67 rfl 5 i5 _ 1 1 Tryz.underlying67 hi5 hy0 hy1 hy2 rfl _ acc.length (bytesV acc) rfl hrow _ 4 (bytesV [92, 120, dk, dm]) rfl hone (bytesV_one _) (by unfold maxLen; omega) (by omega) ?_; intro v9 w9 h9 _)
          simp only [Reg.Next]
          obtain ⟨a9, c9, rfl⟩ : ∃ a c, v9 = .slice a (acc.length + 4) c := by obtain ⟨_, a, c, hv, _⟩ := h9.rowSl; exact ⟨a, c, hv⟩
          have HN2 : Hid (acc ++ [92, 120, dk, dm] = 34 :: (s.take (i + 1)).flatMap quoteB) := Lib.hid (by rw [← HQB.out]; exact HNX.out)
          have hl : (acc ++ [92, 120, dk, dm]).length = acc.length + 4 := by rw [List.length_append]; rfl
          have h10 : St W w9 (star (Row 5 1 (.slice a9 (acc.length + 4) c9) (acc.length + 4) (bytesV (acc ++ [92, 120, dk, dm]))) R) := by rw [bytesV_append]; exact h9.swap.right
          obtain ⟨acc2, ha2⟩ : ∃ a, acc ++ [92, 120, dk, dm] = a := ⟨_, rfl⟩
          rw [ha2] at h10 hl HN2
          rw [← hl] at h10 ⊢
          clear h9 hrow hone ha2 hl hkI hmI
          refine tr_plain (.slice a9 acc2.length c9) rfl ?_ (by simp only [nthOp, Act.put, List.setIfInBounds_toArray, List.set_cons_succ, List.set_cons_zero]; rfl) ?_
          · exact fun _ => rfl
          refine tr_done ?_
          go_wp2_with fail
          exact ⟨⟨i + 1, acc2, a9, c9, hin, by go_num, rfl, HN2, h10⟩, by simp [intOf]; omega⟩
        · have hlo : ¬ (c.toNat : Int) < 32 := by omega
          have hhi : (126 : Int) < (c.toNat : Int) := by omega
          go_wp2_with fail
          refine (HI.out _).mono ?_
          rintro e wr ⟨rfl, rfl⟩
          go_upto_region 11 with fail
          refine Go.Proofs.YtcjlbimmplejjaaGreatDoor.Held.wp_region_held (fun _ => True) [] tr11 (by kernel_rfl) (by kernel_rfl) trivial ?_
          have hd := hS.drew
          clear hS hlo
          generalize wr.drew = w4 at *
          unfold tr11
          refine tr_plain (.slice va acc.length vc) rfl ?_ (by simp only [nthOp, Act.put, List.setIfInBounds_toArray, List.set_cons_succ, List.set_cons_zero]; rfl) ?_
          · exact fun _ => rfl
          refine tr_plain (.int .u8 c.toNat) rfl ?_ (by simp only [nthOp, Act.put, List.setIfInBounds_toArray, List.set_cons_succ, List.set_cons_zero]; rfl) ?_
          · exact fun _ => rfl
          refine tr_plain (.int .u8 (k : Nat)) rfl ?_ (by simp only [nthOp, Act.put, List.setIfInBounds_toArray, List.set_cons_succ, List.set_cons_zero]; rfl) ?_
          · (intro w'; simp only [nthOp]; go_simp)
          refine tr_plain (.int .u8 dk.toNat) rfl ?_ (by simp only [nthOp, Act.put, List.setIfInBounds_toArray, List.set_cons_succ, List.set_cons_zero]; rfl) ?_
          · (intro w'; simp only [nthOp]; rcases HK.out with rfl | rfl | rfl | rfl | rfl | rfl | rfl | rfl | rfl | rfl | rfl | rfl | rfl | rfl | rfl | rfl <;> (go_simp; rw [← HDK.out]; rfl))
          refine tr_plain (.int .u8 c.toNat) rfl ?_ (by simp only [nthOp, Act.put, List.setIfInBounds_toArray, List.set_cons_succ, List.set_cons_zero]; rfl) ?_
          · exact fun _ => rfl
          refine tr_plain (.int .u8 (m : Nat)) rfl ?_ (by simp only [nthOp, Act.put, List.setIfInBounds_toArray, List.set_cons_succ, List.set_cons_zero]; rfl) ?_
          · (intro w'; simp only [nthOp]; go_simp)
          refine tr_plain (.int .u8 dm.toNat) rfl ?_ (by simp only [nthOp, Act.put, List.setIfInBounds_toArray, List.set_cons_succ, List.set_cons_zero]; rfl) ?_
          · (intro w'; simp only [nthOp]; rcases HM.out with rfl | rfl | rfl | rfl | rfl | rfl | rfl | rfl | rfl | rfl | rfl | rfl | rfl | rfl | rfl | rfl <;> (go_simp; rw [← HDM.out]; rfl))
          have hA := hd.alloc (.cells #[.int .u8 92, .int .u8 120, .int .u8 dk.toNat, .int .u8 dm.toNat] 5 (0, 0))
          have hB := St.mkRow (size := 1) (n := 4) (cap := 4) (xs := bytesV [92, 120, dk, dm]) hA (Nat.le_refl _) (by unfold maxLen; omega) rfl rfl
          obtain ⟨fb, hfb⟩ : ∃ z, w4.heap.size = z := ⟨_, rfl⟩
          rw [hfb] at hB
          clear hd hA
          refine tr_one ?_
          simp only [nthOp]
          go_wp2_with fail
          simp only [Reg.Next]
          refine ⟨fun _ => trivial, ?_⟩
          clear hfb
          generalize w4.alloc (.cells #[.int .u8 92, .int .u8 120, .int .u8 dk.toNat, .int .u8 dm.toNat] 5 (0, 0)) = w5 at *
          have hone := hB.rowSl
          have hrow := hB.swap
          clear hB
          refine tr_one ?_
          simp only [nthOp]
          go_wp2_with (at_builtin; refine wpList_append_Sl rfl (.tmp 37) (.tmp 44) 67 rfl 5 i5 _ 1 1 Tryz.underlying67 hi5 hy0 hy1 hy2 rfl _ acc.length (bytesV acc) rfl hrow _ 4 (bytesV [92, 120, dk, dm]) rfl hone (bytesV_one _) (by unfold maxLen; omega) (by omega) ?_; intro v9 w9 h9 _)
          simp only [Reg.Next]
          obtain ⟨a9, c9, rfl⟩ : ∃ a c, v9 = .slice a (acc.length + 4) c := by obtain ⟨_, a, c, hv, _⟩ := h9.rowSl; exact ⟨a, c, hv⟩
          have HN2 : Hid (acc ++ [92, 120, dk, dm] = 34 :: (s.take (i + 1)).flatMap quoteB) := Lib.hid (by rw [← HQB.out]; exact HNX.out)
          have hl : (acc ++ [92, 120, dk, dm]).length = acc.length + 4 := by rw [List.length_append]; rfl
          have h10 : St W w9 (star (Row 5 1 (.slice a9 (acc.length + 4) c9) (acc.length + 4) (bytesV (acc ++ [92, 120, dk, dm]))) R) := by rw [bytesV_append]; exact h9.swap.right
          obtain ⟨acc2, ha2⟩ : ∃ a, acc ++ [92, 120, dk, dm] = a := ⟨_, rfl⟩
          rw [ha2] at h10 hl HN2
          rw [← hl] at h10 ⊢
          clear h9 hrow hone ha2 hl hkI hmI
          refine tr_plain (.slice a9 acc2.length c9) rfl ?_ (by simp only [nthOp, Act.put, List.setIfInBounds_toArray, List.set_cons_succ, List.set_cons_zero]; rfl) ?_
          · exact fun _ => rfl
          refine tr_done ?_
          go_wp2_with fail
          exact ⟨⟨i + 1, acc2, a9, c9, hin, by go_num, rfl, HN2, h10⟩, by simp [intOf]; omega⟩
      · have hlo : ¬ (c.toNat : Int) < 32 := by omega
        have hhi : ¬ (126 : Int) < (c.toNat : Int) := by omega
        have hA := hS.alloc (.cells #[.int .u8 c.toNat] 5 (0, 0))
        have hB := St.mkRow (size := 1) (n := 1) (cap := 1) (xs := bytesV [c]) hA (Nat.le_refl _) (by unfold maxLen; omega) rfl rfl
        have hone := hB.rowSl
        have hrow := hB.swap
        clear hA hB
        go_wp2_with fail
        refine (HI.out _).mono ?_
        rintro e wr ⟨rfl, rfl⟩
        go_wp2_with (at_builtin; refine wpList_append_Sl rfl (.tmp 18) (.tmp 20) 67 rfl 5 i5 _ 1 1 Tryz.underlying67 hi5 hy0 hy1 hy2 rfl _ acc.length (bytesV acc) rfl hrow _ 1 (bytesV [c]) rfl hone (bytesV_one _) (by unfold maxLen; omega) ?_ ?_)
        · omega
        intro v9 w9 h9 _
        obtain ⟨a9, c9, rfl⟩ : ∃ a c, v9 = .slice a (acc.length + 1) c := by obtain ⟨_, a, c, hv, _⟩ := h9.rowSl; exact ⟨a, c, hv⟩
        have hQ : quoteB c = [c] := by unfold quoteB; rw [if_neg g0, if_neg g1, if_neg g2, if_neg g3, if_neg g4]
        have HN2 : Hid (acc ++ [c] = 34 :: (s.take (i + 1)).flatMap quoteB) := Lib.hid (by rw [← hQ]; exact HNX.out)
        have hl : (acc ++ [c]).length = acc.length + 1 := by rw [List.length_append]; rfl
        have h10 : St W w9 (star (Row 5 1 (.slice a9 (acc.length + 1) c9) (acc.length + 1) (bytesV (acc ++ [c]))) R) := by rw [bytesV_append]; exact h9.swap.right
        obtain ⟨acc2, ha2⟩ : ∃ a, acc ++ [c] = a := ⟨_, rfl⟩
        rw [ha2] at h10 hl HN2
        rw [← hl] at h10 ⊢
        clear h9 hrow hone hS ha2 hl hQ
        go_wp2_with fail
        exact ⟨⟨i + 1, acc2, a9, c9, hin, by go_num, rfl, HN2, h10⟩, by simp [intOf]; omega⟩
    · obtain rfl : s.length = i := by omega
      have HF : Hid (acc ++ [34] = quote s) := Lib.hid (by rw [HA.out, List.take_length]; rfl)
      go_wp2_with (at_builtin; refine wpList_append1 rfl (.tmp 47) (.tmp 48) 67 rfl 5 i5 _ 1 1 Tryz.underlying67 hi5 hy0 hy1 hy2 rfl _ acc.length _ rfl hS #[.int .u8 34] rfl rfl (by intro u hu; simp at hu; subst hu; rfl) (by unfold maxLen; omega) (by omega) ?_; intro a9 c9 w9 h9; have hcv := run_string_of (P := Tryz.prog) (l := acc ++ [34]) (by rw [bytesV_append]; exact h9.rowSl) 67 9 5 Tryz.underlying67 Tryz.underlying5 Tryz.underlying9)
      go_ret
      exact ⟨(by rw [← HF.out]; rfl), h9.right⟩
end Go.Proofs.YtcjlbimmplejjaaGreatDoor.ScI
