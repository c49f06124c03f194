import Derived.Test.YtcjlbimmplejjaaGreatDoorScPa
namespace Go.Proofs.YtcjlbimmplejjaaGreatDoor.ScPb
open Go Go.RowKit Go.Proofs Go.Proofs.YtcjlbimmplejjaaGreatDoor.Sep Go.Proofs.YtcjlbimmplejjaaGreatDoor.Reg Go.Proofs.YtcjlbimmplejjaaGreatDoor.Fork Go.Proofs.YtcjlbimmplejjaaGreatDoor.Held Go.Proofs.YtcjlbimmplejjaaGreatDoor.Frame Go.Proofs.YtcjlbimmplejjaaGreatDoor.WdP Go.Proofs.YtcjlbimmplejjaaGreatDoor.WdT Go.Proofs.YtcjlbimmplejjaaGreatDoor.ScP Go.Proofs.YtcjlbimmplejjaaGreatDoor.ScB Go.Proofs.YtcjlbimmplejjaaGreatDoor.ScI Go.Proofs.YtcjlbimmplejjaaGreatDoor.ScJ Go.Proofs.YtcjlbimmplejjaaGreatDoor.ScM Go.Proofs.YtcjlbimmplejjaaGreatDoor.ScW Go.Proofs.YtcjlbimmplejjaaGreatDoor.ScNu Go.Proofs.YtcjlbimmplejjaaGreatDoor.ScR Go.Proofs.YtcjlbimmplejjaaGreatDoor.ScPa

theorem u8_eq {c d : UInt8} (h : c = d) : ((c.toNat : Int) == (d.toNat : Int)) = true := by subst h; simp
theorem u8_ne {c d : UInt8} (h : c ≠ d) : ((c.toNat : Int) == (d.toNat : Int)) = false := by
  rw [beq_eq_false_iff_ne]
  intro e
  exact h (UInt8.toNat_inj.1 (by omega))
theorem hex_cut : ∀ k, k < 16 → (⟨#[48, 49, 50, 51, 52, 53, 54, 55, 56, 57, 97, 98, 99, 100, 101, 102]⟩ : ByteArray).extract k (k + 1) = ⟨[hexD.getD k 0].toArray⟩ := by decide +kernel
def tr14 : Tr := .plain 0 (.plain 1 (.plain 2 (.plain 3 (.plain 4 (.plain 5 (.plain 6 (.plain 7 (.plain 8 (.plain 9 (.plain 10 (.plain 11 (.plain 12 (.plain 13 (.plain 14 (.plain 15 (.plain 16 .done))))))))))))))))

set_option maxRecDepth 100000 in
set_option maxHeartbeats 16000000 in
theorem rQuote_any {W w : World} {R : Asn} (s : Tx) (hs : s.length ≤ 1000000) (h : St W w R) : Calls Tryz.prog 16 #[.string ⟨s.toArray⟩] w fun e w' => e = .returned (.string ⟨(quote s).toArray⟩) ∧ St W w' R := by
  go_enter Tryz.func16, Tryz.ntmps16
  go_wp2_with fail
  go_loopw [3, 4] (fun tv iv wr => ∃ (i : Nat) (acc : Tx), i ≤ s.length ∧ iv = .int .i64 i ∧ tv = .string ⟨acc.toArray⟩ ∧ Hid (acc = 34 :: (s.take i).flatMap quoteB) ∧ St W wr R) (fun _ iv _ => s.length - (intOf iv).toNat)
  case atStart => exact ⟨0, [34], Nat.zero_le _, rfl, rfl, Lib.hid rfl, h⟩
  case round =>
    obtain ⟨i, acc, hi, rfl, rfl, HA, hS⟩ := hrel
    clear h
    have hal : acc.length ≤ 4000001 := by
      have h5 := flat_len (s.take i)
      rw [HA.out, List.length_cons]
      rw [List.length_take] at h5; omega
    by_cases hin : i < s.length
    · have hiI : (i : Int) < s.length := by omega
      have hsz : i < (ByteArray.mk s.toArray).size := by simpa [ByteArray.size] using hin
      have HGt := Lib.hid (ScI.get_at s i hsz)
      generalize hc : (ByteArray.mk s.toArray)[i]'hsz = c at *
      have HNX : Hid (acc ++ quoteB c = 34 :: (s.take (i + 1)).flatMap quoteB) := Lib.hid (by
        rw [List.take_add_one, HGt.out, List.flatMap_append, HA.out]; simp)
      have hlt := c.toNat_lt
      by_cases g0 : c = 10
      · have e0 : ((c.toNat : Int) == 10) = true := u8_eq g0
        have hQ : quoteB c = [92, 110] := by unfold quoteB; rw [if_pos g0]
        have HN2 : Hid (acc ++ [92, 110] = 34 :: (s.take (i + 1)).flatMap quoteB) := Lib.hid (by rw [← hQ]; exact HNX.out)
        have ha1 := run_str_add (P := Tryz.prog) acc [92, 110] (by simp; omega)
        clear hQ g0
        go_wp2_with fail
        exact ⟨⟨i + 1, acc ++ [92, 110], hin, by go_num, rfl, HN2, hS⟩, by simp [intOf]; omega⟩
      have e0 : ((c.toNat : Int) == 10) = false := u8_ne g0
      by_cases g1 : c = 13
      · have e1 : ((c.toNat : Int) == 13) = true := u8_eq g1
        have hQ : quoteB c = [92, 114] := by unfold quoteB; rw [if_neg g0, if_pos g1]
        have HN2 : Hid (acc ++ [92, 114] = 34 :: (s.take (i + 1)).flatMap quoteB) := Lib.hid (by rw [← hQ]; exact HNX.out)
        have ha1 := run_str_add (P := Tryz.prog) acc [92, 114] (by simp; omega)
        clear hQ g0 g1
        go_wp2_with fail
        exact ⟨⟨i + 1, acc ++ [92, 114], hin, by go_num, rfl, HN2, hS⟩, by simp [intOf]; omega⟩
      have e1 : ((c.toNat : Int) == 13) = false := u8_ne g1
      by_cases g34 : c = 34
      · have hQ : quoteB c = [92, 34] := by unfold quoteB; rw [if_neg g0, if_neg g1, if_pos g34]
        have HN2 : Hid (acc ++ [92] ++ [34] = 34 :: (s.take (i + 1)).flatMap quoteB) := Lib.hid (by rw [List.append_assoc]; show acc ++ [92, 34] = _; rw [← hQ]; exact HNX.out)
        have e34 : ((c.toNat : Int) == 34) = true := u8_eq g34
        subst g34
        have hcv := run_string_one (P := Tryz.prog) 67 9 5 Tryz.underlying67 Tryz.underlying5 Tryz.underlying9 wr wr.heap.size rfl 34 34 rfl (by decide) (0, 0)
        have hA := hS.alloc (.cells #[.int .u8 34] 5 (0, 0))
        have H2 := Lib.hid hA.right
        have ha1 := run_str_add (P := Tryz.prog) acc [92] (by simp; omega)
        have ha2 := run_str_add (P := Tryz.prog) (acc ++ [92]) [34] (by simp; omega)
        obtain ⟨acc1, hacc1⟩ : ∃ z, acc ++ [92] = z := ⟨_, rfl⟩
        rw [hacc1] at ha1 ha2 HN2
        clear hQ g0 g1 hS hacc1 hA e34
        go_wp2_with fail
        exact ⟨⟨i + 1, acc1 ++ [34], hin, by go_num, rfl, HN2, H2.out⟩, by simp [intOf]; omega⟩
      have e34 : ((c.toNat : Int) == 34) = false := u8_ne g34
      by_cases g92 : c = 92
      · have hQ : quoteB c = [92, 92] := by unfold quoteB; rw [if_neg g0, if_neg g1, if_neg g34, if_pos g92]
        have HN2 : Hid (acc ++ [92] ++ [92] = 34 :: (s.take (i + 1)).flatMap quoteB) := Lib.hid (by rw [List.append_assoc]; show acc ++ [92, 92] = _; rw [← hQ]; exact HNX.out)
        have e92 : ((c.toNat : Int) == 92) = true := u8_eq g92
        subst g92
        have hcv := run_string_one (P := Tryz.prog) 67 9 5 Tryz.underlying67 Tryz.underlying5 Tryz.underlying9 wr wr.heap.size rfl 92 92 rfl (by decide) (0, 0)
        have hA := hS.alloc (.cells #[.int .u8 92] 5 (0, 0))
        have H2 := Lib.hid hA.right
        have ha1 := run_str_add (P := Tryz.prog) acc [92] (by simp; omega)
        have ha2 := run_str_add (P := Tryz.prog) (acc ++ [92]) [92] (by simp; omega)
        obtain ⟨acc1, hacc1⟩ : ∃ z, acc ++ [92] = z := ⟨_, rfl⟩
        rw [hacc1] at ha1 ha2 HN2
        clear hQ g0 g1 hS hacc1 hA e92
        go_wp2_with fail
        exact ⟨⟨i + 1, acc1 ++ [92], hin, by go_num, rfl, HN2, H2.out⟩, by simp [intOf]; omega⟩
      have e92 : ((c.toNat : Int) == 92) = false := u8_ne g92
      by_cases g4 : c.toNat < 32 ∨ 126 < c.toNat
      · have hqb : quoteB c = [92, 120, hexD.getD (c.toNat / 16) 0, hexD.getD (c.toNat % 16) 0] := by unfold quoteB; rw [if_neg g0, if_neg g1, if_neg g34, if_neg g92, if_pos g4]
        have hh1 : c.toNat / 16 < 16 := by omega
        have hh2 : c.toNat % 16 < 16 := by omega
        obtain ⟨k, hk⟩ : ∃ k, c.toNat / 16 = k := ⟨_, rfl⟩
        obtain ⟨m, hm⟩ : ∃ m, c.toNat % 16 = m := ⟨_, rfl⟩
        rw [hk, hm] at hqb
        rw [hk] at hh1
        rw [hm] at hh2
        have hkI : (c.toNat : Int).tdiv 16 = (k : Int) := by rw [Int.tdiv_eq_ediv_of_nonneg (by omega)]; omega
        have hmI : (c.toNat : Int).tmod 16 = (m : Int) := by rw [Int.tmod_eq_emod_of_nonneg (by omega)]; omega
        have HK1 := Lib.hid (hex_cut k hh1)
        have HM1 := Lib.hid (hex_cut m hh2)
        obtain ⟨dk, hdk⟩ : ∃ d, hexD.getD k 0 = d := ⟨_, rfl⟩
        obtain ⟨dm, hdm⟩ : ∃ d, hexD.getD m 0 = d := ⟨_, rfl⟩
        rw [hdk] at HK1
        rw [hdm] at HM1
        rw [hdk, hdm] at hqb
        have HN2 : Hid (acc ++ [92, 120] ++ [dk] ++ [dm] = 34 :: (s.take (i + 1)).flatMap quoteB) := Lib.hid (by
          rw [← HNX.out, hqb]; simp)
        have ha1 := run_str_add (P := Tryz.prog) acc [92, 120] (by simp; omega)
        have ha2 := run_str_add (P := Tryz.prog) (acc ++ [92, 120]) [dk] (by simp; omega)
        have ha3 := run_str_add (P := Tryz.prog) (acc ++ [92, 120] ++ [dk]) [dm] (by simp; omega)
        obtain ⟨acc1, hacc1⟩ : ∃ z, acc ++ [92, 120] = z := ⟨_, rfl⟩
        rw [hacc1] at ha1 ha2 ha3 HN2
        obtain ⟨acc2, hacc2⟩ : ∃ z, acc1 ++ [dk] = z := ⟨_, rfl⟩
        rw [hacc2] at ha2 ha3 HN2
        obtain ⟨acc3, hacc3⟩ : ∃ z, acc2 ++ [dm] = z := ⟨_, rfl⟩
        rw [hacc3] at ha3 HN2
        have HD := Lib.hid hS.drew
        clear hk hm hqb hdk hdm hS hacc1 hacc2 hacc3
        have HSL : Hid (∀ (w' : World) (k : Nat) (d : UInt8), k < 16 → (ByteArray.mk #[48, 49, 50, 51, 52, 53, 54, 55, 56, 57, 97, 98, 99, 100, 101, 102]).extract k (k + 1) = ⟨[d].toArray⟩ → (Instr.slice 9 (.string ⟨#[48, 49, 50, 51, 52, 53, 54, 55, 56, 57, 97, 98, 99, 100, 101, 102]⟩) (some (.int .u8 (k : Nat))) (some (.int .u8 ((k : Int) + 1))) none).run Tryz.prog w' = .ok (.string ⟨[d].toArray⟩) w') := Lib.hid (by
          intro w' k d hk he
          have h16 : k = 0 ∨ k = 1 ∨ k = 2 ∨ k = 3 ∨ k = 4 ∨ k = 5 ∨ k = 6 ∨ k = 7 ∨ k = 8 ∨ k = 9 ∨ k = 10 ∨ k = 11 ∨ k = 12 ∨ k = 13 ∨ k = 14 ∨ k = 15 := by omega
          rw [← he]
          rcases h16 with rfl | rfl | rfl | rfl | rfl | rfl | rfl | rfl | rfl | rfl | rfl | rfl | rfl | rfl | rfl | rfl <;> rfl)
        rcases g4 with g5 | g5
        · have hlo : (c.toNat : Int) < 32 := by omega
          go_upto_region 14 with fail
          refine Go.Proofs.YtcjlbimmplejjaaGreatDoor.Held.wp_region_held (fun _ => True) [] tr14 (by kernel_rfl) (by kernel_rfl) trivial ?_
          generalize wr.drew = w4 at *
          unfold tr14
          refine tr_plain (.string ⟨acc.toArray⟩) rfl ?_ (by simp only [nthOp, Act.put, List.setIfInBounds_toArray, List.set_cons_succ, List.set_cons_zero]; rfl) ?_
          · exact fun _ => rfl
          refine tr_plain (.string ⟨acc1.toArray⟩) rfl ?_ (by simp only [nthOp, Act.put, List.setIfInBounds_toArray, List.set_cons_succ, List.set_cons_zero]; rfl) ?_
          · (intro w'; simp only [nthOp]; go_simp)
          refine tr_plain (.int .u8 c.toNat) rfl ?_ (by simp only [nthOp, Act.put, List.setIfInBounds_toArray, List.set_cons_succ, List.set_cons_zero]; rfl) ?_
          · exact fun _ => rfl
          refine tr_plain (.int .u8 (k : Nat)) rfl ?_ (by simp only [nthOp, Act.put, List.setIfInBounds_toArray, List.set_cons_succ, List.set_cons_zero]; rfl) ?_
          · (intro w'; simp only [nthOp]; go_simp <;> first | done | (rw [IntKind.wrap_u8]; omega) | skip)
          refine tr_plain (.int .u8 c.toNat) rfl ?_ (by simp only [nthOp, Act.put, List.setIfInBounds_toArray, List.set_cons_succ, List.set_cons_zero]; rfl) ?_
          · exact fun _ => rfl
          refine tr_plain (.int .u8 (k : Nat)) rfl ?_ (by simp only [nthOp, Act.put, List.setIfInBounds_toArray, List.set_cons_succ, List.set_cons_zero]; rfl) ?_
          · (intro w'; simp only [nthOp]; go_simp <;> first | done | (rw [IntKind.wrap_u8]; omega) | skip)
          refine tr_plain (.int .u8 ((k : Int) + 1)) rfl ?_ (by simp only [nthOp, Act.put, List.setIfInBounds_toArray, List.set_cons_succ, List.set_cons_zero]; rfl) ?_
          · (intro w'; simp only [nthOp]; go_simp <;> first | done | (rw [IntKind.wrap_u8]; omega) | skip)
          refine tr_plain (.string ⟨[dk].toArray⟩) rfl ?_ (by simp only [nthOp, Act.put, List.setIfInBounds_toArray, List.set_cons_succ, List.set_cons_zero]; rfl) ?_
          · exact fun w' => by simp only [nthOp]; go_simp; rw [HSL.out w' k dk hh1 HK1.out]; rfl
          refine tr_plain (.string ⟨acc2.toArray⟩) rfl ?_ (by simp only [nthOp, Act.put, List.setIfInBounds_toArray, List.set_cons_succ, List.set_cons_zero]; rfl) ?_
          · (intro w'; simp only [nthOp]; go_simp)
          refine tr_plain (.int .u8 c.toNat) rfl ?_ (by simp only [nthOp, Act.put, List.setIfInBounds_toArray, List.set_cons_succ, List.set_cons_zero]; rfl) ?_
          · exact fun _ => rfl
          refine tr_plain (.int .u8 (m : Nat)) rfl ?_ (by simp only [nthOp, Act.put, List.setIfInBounds_toArray, List.set_cons_succ, List.set_cons_zero]; rfl) ?_
          · (intro w'; simp only [nthOp]; go_simp <;> first | done | (rw [IntKind.wrap_u8]; omega) | skip)
          refine tr_plain (.int .u8 c.toNat) rfl ?_ (by simp only [nthOp, Act.put, List.setIfInBounds_toArray, List.set_cons_succ, List.set_cons_zero]; rfl) ?_
          · exact fun _ => rfl
          refine tr_plain (.int .u8 (m : Nat)) rfl ?_ (by simp only [nthOp, Act.put, List.setIfInBounds_toArray, List.set_cons_succ, List.set_cons_zero]; rfl) ?_
          · (intro w'; simp only [nthOp]; go_simp <;> first | done | (rw [IntKind.wrap_u8]; omega) | skip)
          refine tr_plain (.int .u8 ((m : Int) + 1)) rfl ?_ (by simp only [nthOp, Act.put, List.setIfInBounds_toArray, List.set_cons_succ, List.set_cons_zero]; rfl) ?_
          · (intro w'; simp only [nthOp]; go_simp <;> first | done | (rw [IntKind.wrap_u8]; omega) | skip)
          refine tr_plain (.string ⟨[dm].toArray⟩) rfl ?_ (by simp only [nthOp, Act.put, List.setIfInBounds_toArray, List.set_cons_succ, List.set_cons_zero]; rfl) ?_
          · exact fun w' => by simp only [nthOp]; go_simp; rw [HSL.out w' m dm hh2 HM1.out]; rfl
          refine tr_plain (.string ⟨acc3.toArray⟩) rfl ?_ (by simp only [nthOp, Act.put, List.setIfInBounds_toArray, List.set_cons_succ, List.set_cons_zero]; rfl) ?_
          · (intro w'; simp only [nthOp]; go_simp)
          refine tr_plain (.string ⟨acc3.toArray⟩) rfl ?_ (by simp only [nthOp, Act.put, List.setIfInBounds_toArray, List.set_cons_succ, List.set_cons_zero]; rfl) ?_
          · exact fun _ => rfl
          refine tr_done ?_
          go_wp2_with fail
          exact ⟨⟨i + 1, acc3, hin, by go_num, rfl, HN2, HD.out⟩, by simp [intOf]; omega⟩
        · have hlo : ¬ (c.toNat : Int) < 32 := by omega
          have hhi : (126 : Int) < (c.toNat : Int) := by omega
          go_upto_region 14 with fail
          refine Go.Proofs.YtcjlbimmplejjaaGreatDoor.Held.wp_region_held (fun _ => True) [] tr14 (by kernel_rfl) (by kernel_rfl) trivial ?_
          generalize wr.drew = w4 at *
          unfold tr14
          refine tr_plain (.string ⟨acc.toArray⟩) rfl ?_ (by simp only [nthOp, Act.put, List.setIfInBounds_toArray, List.set_cons_succ, List.set_cons_zero]; rfl) ?_
          · exact fun _ => rfl
          refine tr_plain (.string ⟨acc1.toArray⟩) rfl ?_ (by simp only [nthOp, Act.put, List.setIfInBounds_toArray, List.set_cons_succ, List.set_cons_zero]; rfl) ?_
          · (intro w'; simp only [nthOp]; go_simp)
          refine tr_plain (.int .u8 c.toNat) rfl ?_ (by simp only [nthOp, Act.put, List.setIfInBounds_toArray, List.set_cons_succ, List.set_cons_zero]; rfl) ?_
          · exact fun _ => rfl
          refine tr_plain (.int .u8 (k : Nat)) rfl ?_ (by simp only [nthOp, Act.put, List.setIfInBounds_toArray, List.set_cons_succ, List.set_cons_zero]; rfl) ?_
          · (intro w'; simp only [nthOp]; go_simp <;> first | done | (rw [IntKind.wrap_u8]; omega) | skip)
          refine tr_plain (.int .u8 c.toNat) rfl ?_ (by simp only [nthOp, Act.put, List.setIfInBounds_toArray, List.set_cons_succ, List.set_cons_zero]; rfl) ?_
          · exact fun _ => rfl
          refine tr_plain (.int .u8 (k : Nat)) rfl ?_ (by simp only [nthOp, Act.put, List.setIfInBounds_toArray, List.set_cons_succ, List.set_cons_zero]; rfl) ?_
          · (intro w'; simp only [nthOp]; go_simp <;> first | done | (rw [IntKind.wrap_u8]; omega) | skip)
          refine tr_plain (.int .u8 ((k : Int) + 1)) rfl ?_ (by simp only [nthOp, Act.put, List.setIfInBounds_toArray, List.set_cons_succ, List.set_cons_zero]; rfl) ?_
          · (intro w'; simp only [nthOp]; go_simp <;> first | done | (rw [IntKind.wrap_u8]; omega) | skip)
          refine tr_plain (.string ⟨[dk].toArray⟩) rfl ?_ (by simp only [nthOp, Act.put, List.setIfInBounds_toArray, List.set_cons_succ, List.set_cons_zero]; rfl) ?_
          · exact fun w' => by simp only [nthOp]; go_simp; rw [HSL.out w' k dk hh1 HK1.out]; rfl
          refine tr_plain (.string ⟨acc2.toArray⟩) rfl ?_ (by simp only [nthOp, Act.put, List.setIfInBounds_toArray, List.set_cons_succ, List.set_cons_zero]; rfl) ?_
          · (intro w'; simp only [nthOp]; go_simp)
          refine tr_plain (.int .u8 c.toNat) rfl ?_ (by simp only [nthOp, Act.put, List.setIfInBounds_toArray, List.set_cons_succ, List.set_cons_zero]; rfl) ?_
          · exact fun _ => rfl
          refine tr_plain (.int .u8 (m : Nat)) rfl ?_ (by simp only [nthOp, Act.put, List.setIfInBounds_toArray, List.set_cons_succ, List.set_cons_zero]; rfl) ?_
          · (intro w'; simp only [nthOp]; go_simp <;> first | done | (rw [IntKind.wrap_u8]; omega) | skip)
          refine tr_plain (.int .u8 c.toNat) rfl ?_ (by simp only [nthOp, Act.put, List.setIfInBounds_toArray, List.set_cons_succ, List.set_cons_zero]; rfl) ?_
          · exact fun _ => rfl
          refine tr_plain (.int .u8 (m : Nat)) rfl ?_ (by simp only [nthOp, Act.put, List.setIfInBounds_toArray, List.set_cons_succ, List.set_cons_zero]; rfl) ?_
          · (intro w'; simp only [nthOp]; go_simp <;> first | done | (rw [IntKind.wrap_u8]; omega) | skip)
          refine tr_plain (.int .u8 ((m : Int) + 1)) rfl ?_ (by simp only [nthOp, Act.put, List.setIfInBounds_toArray, List.set_cons_succ, List.set_cons_zero]; rfl) ?_
          · (intro w'; simp only [nthOp]; go_simp <;> first | done | (rw [IntKind.wrap_u8]; omega) | skip)
          refine tr_plain (.string ⟨[dm].toArray⟩) rfl ?_ (by simp only [nthOp, Act.put, List.setIfInBounds_toArray, List.set_cons_succ, List.set_cons_zero]; rfl) ?_
          · exact fun w' => by simp only [nthOp]; go_simp; rw [HSL.out w' m dm hh2 HM1.out]; rfl
          refine tr_plain (.string ⟨acc3.toArray⟩) rfl ?_ (by simp only [nthOp, Act.put, List.setIfInBounds_toArray, List.set_cons_succ, List.set_cons_zero]; rfl) ?_
          · (intro w'; simp only [nthOp]; go_simp)
          refine tr_plain (.string ⟨acc3.toArray⟩) rfl ?_ (by simp only [nthOp, Act.put, List.setIfInBounds_toArray, List.set_cons_succ, List.set_cons_zero]; rfl) ?_
          · exact fun _ => rfl
          refine tr_done ?_
          go_wp2_with fail
          exact ⟨⟨i + 1, acc3, hin, by go_num, rfl, HN2, HD.out⟩, by simp [intOf]; omega⟩
      · have hQ : quoteB c = [c] := by unfold quoteB; rw [if_neg g0, if_neg g1, if_neg g34, if_neg g92, if_neg g4]
        have HN2 : Hid (acc ++ [c] = 34 :: (s.take (i + 1)).flatMap quoteB) := Lib.hid (by rw [← hQ]; exact HNX.out)
        have hlo : ¬ (c.toNat : Int) < 32 := by omega
        have hhi : ¬ (126 : Int) < (c.toNat : Int) := by omega
        have ha1 := run_str_add (P := Tryz.prog) acc [c] (by simp; omega)
        have hcv := run_string_one (P := Tryz.prog) 67 9 5 Tryz.underlying67 Tryz.underlying5 Tryz.underlying9 wr wr.heap.size rfl (c.toNat : Int) c.toNat rfl hlt (0, 0)
        rw [show UInt8.ofNat c.toNat = c from by simp] at hcv
        have hA := hS.alloc (.cells #[.int .u8 c.toNat] 5 (0, 0))
        have H2 := Lib.hid hA.right
        clear hA hQ g0 g1 g4 hS
        go_wp2_with fail
        exact ⟨⟨i + 1, acc ++ [c], hin, by go_num, rfl, HN2, H2.out⟩, by simp [intOf]; omega⟩
    · obtain rfl : s.length = i := by omega
      have HQ : Hid (acc ++ [34] = quote s) := Lib.hid (by rw [HA.out, List.take_length]; rfl)
      have ha1 := run_str_add (P := Tryz.prog) acc [34] (by simp; omega)
      have HS := Lib.hid hS
      clear hS hal
      go_wp2
      go_ret
      exact ⟨by rw [← HQ.out]; rfl, HS.out⟩
end Go.Proofs.YtcjlbimmplejjaaGreatDoor.ScPb
