import Derived.Test.YtcjlbimmplejjaaGreatDoorScPc
namespace Go.Proofs.YtcjlbimmplejjaaGreatDoor.ScPd
open Go Go.RowKit Go.Proofs Go.Proofs.YtcjlbimmplejjaaGreatDoor.Sep Go.Proofs.YtcjlbimmplejjaaGreatDoor.Reg Go.Proofs.YtcjlbimmplejjaaGreatDoor.Fork Go.Proofs.YtcjlbimmplejjaaGreatDoor.Held Go.Proofs.YtcjlbimmplejjaaGreatDoor.Frame Go.Proofs.YtcjlbimmplejjaaGreatDoor.WdP Go.Proofs.YtcjlbimmplejjaaGreatDoor.WdT Go.Proofs.YtcjlbimmplejjaaGreatDoor.ScP Go.Proofs.YtcjlbimmplejjaaGreatDoor.ScB Go.Proofs.YtcjlbimmplejjaaGreatDoor.ScI Go.Proofs.YtcjlbimmplejjaaGreatDoor.ScJ Go.Proofs.YtcjlbimmplejjaaGreatDoor.ScM Go.Proofs.YtcjlbimmplejjaaGreatDoor.ScW Go.Proofs.YtcjlbimmplejjaaGreatDoor.ScNu Go.Proofs.YtcjlbimmplejjaaGreatDoor.ScR Go.Proofs.YtcjlbimmplejjaaGreatDoor.ScPa Go.Proofs.YtcjlbimmplejjaaGreatDoor.ScPb Go.Proofs.YtcjlbimmplejjaaGreatDoor.ScPc

theorem tw_ge (x : Ac) : ∀ (m : Nat) (l : List Ac), (∀ j, j < m → l[j]? = some x) → m ≤ (l.takeWhile (· == x)).length
  | 0, _, _ => Nat.zero_le _
  | m + 1, [], h => by have := h 0 (by omega); simp at this
  | m + 1, y :: l, h => by
    have h0 : y = x := by have := h 0 (by omega); simpa using this
    subst h0
    rw [List.takeWhile_cons]
    simp only [beq_self_eq_true, if_true, List.length_cons]
    have := tw_ge y m l fun j hj => by have := h (j + 1) (by omega); simpa using this
    omega
theorem tw_le (x y : Ac) (hxy : y ≠ x) : ∀ (m : Nat) (l : List Ac), l[m]? = some y → (l.takeWhile (· == x)).length ≤ m
  | 0, [], h => by simp at h
  | 0, z :: l, h => by
    simp at h; subst h
    have : (z == x) = false := by simpa using hxy
    rw [List.takeWhile_cons, this]; simp
  | m + 1, [], h => by simp at h
  | m + 1, z :: l, h => by
    rw [List.takeWhile_cons]
    split
    · rw [List.length_cons]
      have := tw_le x y hxy m l (by simpa using h)
      omega
    · simp
theorem run_at {x : Ac} {r : List Ac} {m : Nat} (h1 : 1 ≤ m) (h2 : m ≤ 1000) (hall : ∀ j, j < m → (x :: r)[j]? = some x) (hend : (x :: r).length = m ∨ (∃ y, (x :: r)[m]? = some y ∧ y ≠ x) ∨ m = 1000) : runP (x :: r) = m := by
  have hge := tw_ge x m (x :: r) hall
  have heq : ((x :: r).takeWhile (· == x)).length = (r.takeWhile (· == x)).length + 1 := by simp
  have hle : m = 1000 ∨ ((x :: r).takeWhile (· == x)).length ≤ m := by
    rcases hend with h | ⟨y, hy, hne⟩ | h
    · exact .inr (by rw [← h]; exact (List.takeWhile_prefix _).length_le)
    · exact .inr (tw_le x y hne m _ hy)
    · exact .inl h
  simp only [runP]
  omega
theorem print_short {n : Nat} {x : Ac} {r : List Ac} {b : Tx} (hb : b.length ≤ 65536) (h : runP (x :: r) < 3) : printF (n + 1) (x :: r) b = printF n r (b ++ (wordA x ++ [10])) := by
  show (if 65536 < b.length then b else if runP (x :: r) < 3 then printF n r (b ++ (wordA x ++ [10])) else printF n ((x :: r).drop (runP (x :: r))) (b ++ many3 (runP (x :: r)) x)) = _
  rw [if_neg (by omega), if_pos h]
theorem print_many {n : Nat} {x : Ac} {r : List Ac} {b : Tx} (hb : b.length ≤ 65536) (h : ¬ runP (x :: r) < 3) : printF (n + 1) (x :: r) b = printF n ((x :: r).drop (runP (x :: r))) (b ++ many3 (runP (x :: r)) x) := by
  show (if 65536 < b.length then b else if runP (x :: r) < 3 then printF n r (b ++ (wordA x ++ [10])) else printF n ((x :: r).drop (runP (x :: r))) (b ++ many3 (runP (x :: r)) x)) = _
  rw [if_neg (by omega), if_neg h]
def tr17 : Tr := .plain 0 (.plain 1 (.plain 2 (.plain 6 (.plain 7 (.plain 8 (.held 9 (.one 3 (.plain 4 (.plain 5 (.one 10 (.plain 11 (.plain 12 (.plain 13 .done)))))))))))))
theorem wordA_len2 {x : Ac} (hx : OkA x) (hr : rightA x = true) : (wordA x).length ≤ 20000 := ScV.wordA_len hx hr
set_option maxRecDepth 100000 in
set_option maxHeartbeats 16000000 in
theorem rPrint_any {W w : World} {R : Asn} (a : Option Addr) (n c : Nat) (L : List Ac) (hln : L.length = n) (hn6 : n ≤ 1000000) (hOk : ∀ x ∈ L, OkA x) (hsl : Sl W 4 (.slice a n c) n (actsV L)) (h : St W w R) :
    Calls Tryz.prog 18 #[.slice a n c] w fun e w' => e = .returned (.tuple #[.string ⟨(printP L).1.toArray⟩, .int .i64 ((printP L).2 : Nat)]) ∧ St W w' R := by
  have hcap : n ≤ c ∧ c ≤ 9223372036854775807 := by obtain ⟨_, _, _, hv, h1, h2, _⟩ := hsl; cases hv; exact ⟨h1, by simpa [maxLen] using h2⟩
  have HSL := Lib.hid hsl
  have HOK := Lib.hid hOk
  have HLN := Lib.hid hln
  clear hsl hOk hln
  go_enter Tryz.func18, Tryz.ntmps18
  go_wp2_with fail
  go_loopw [4] (fun iv wr => ∃ i : Nat, i ≤ n ∧ iv = .int .i64 i ∧ Hid (∀ x ∈ L.take i, rightA x = true) ∧ St W wr R) (fun iv _ => n - (intOf iv).toNat)
  case atStart => exact ⟨0, Nat.zero_le _, rfl, Lib.hid (by simp), h⟩
  case round =>
    obtain ⟨i, hi, rfl, HR, hS⟩ := hrel
    clear h
    by_cases hin : i < n
    · have hinI : (i : Int) < n := by omega
      obtain ⟨x, hx⟩ : ∃ x, L[i]? = some x := ⟨_, List.getElem?_eq_getElem (by rw [HLN.out]; exact hin)⟩
      obtain ⟨ab, ao, rfl, ⟨a0, a1, a2, a3⟩, -⟩ := act_at (sl_past HSL.out hS) hx
      have HX := Lib.hid hx
      have HRi := Lib.hid (rRight_any x hS)
      obtain ⟨b, hb⟩ : ∃ b, rightA x = b := ⟨_, rfl⟩
      rw [hb] at HRi
      have HB := Lib.hid hb
      clear hx hS hb
      cases b with
      | true =>
        have HN : Hid (∀ x ∈ L.take (i + 1), rightA x = true) := Lib.hid (by
          intro z hz
          rw [List.take_add_one, HX.out] at hz
          rcases List.mem_append.1 hz with hz | hz
          · exact HR.out z hz
          · simp at hz; rw [hz]; exact HB.out)
        go_wp2_with fail
        refine HRi.out.mono ?_
        rintro e w2 ⟨rfl, hS⟩
        clear a0 a1 a2 a3 HRi
        go_wp2_with fail
        exact ⟨⟨i + 1, hin, by go_num, HN, hS⟩, by simp [intOf]; omega⟩
      | false =>
        have HP : Hid (printP L = ([], 1)) := Lib.hid (by
          unfold printP
          rw [if_pos]
          rw [List.any_eq_true]
          exact ⟨x, List.mem_of_getElem? HX.out, by rw [HB.out]; rfl⟩)
        go_wp2_with fail
        refine HRi.out.mono ?_
        rintro e w2 ⟨rfl, hS⟩
        have HS := Lib.hid hS
        clear a0 a1 a2 a3 HRi hS
        go_wp2
        go_ret2
        exact ⟨by rw [HP.out]; rfl, HS.out⟩
    · obtain rfl : n = i := by omega
      have HALL : Hid (∀ x ∈ L, rightA x = true) := Lib.hid fun x hx => HR.out x (by rw [List.take_of_length_le (by rw [HLN.out]; exact Nat.le_refl _)]; exact hx)
      have HAN : Hid (L.any (fun x => !rightA x) = false) := Lib.hid (by
        rw [List.any_eq_false]
        intro x hx
        rw [HALL.out x hx]; decide)
      clear HR
      by_cases h4096 : 4096 < n
      · have h4I : (4096 : Int) < n := by omega
        have HP : Hid (printP L = ([], 3)) := Lib.hid (by unfold printP; rw [if_neg (by rw [HAN.out]; decide), if_pos (by rw [HLN.out]; exact h4096)])
        have HS := Lib.hid hS
        clear hS
        go_wp2
        go_ret2
        exact ⟨by rw [HP.out]; rfl, HS.out⟩
      · have h4I : ¬ (4096 : Int) < n := by omega
        have HP : Hid (printP L = if 65536 < (printF L.length L []).length then ([], 3) else (printF L.length L [], 0)) := Lib.hid (by unfold printP; rw [if_neg (by rw [HAN.out]; decide), if_neg (by rw [HLN.out]; exact h4096)])
        go_wp2_with fail
        go_loopw [5, 6] (fun tv iv wr => ∃ (i : Nat) (acc : Tx) (f : Nat), i ≤ n ∧ iv = .int .i64 i ∧ tv = .string ⟨acc.toArray⟩ ∧ n ≤ f + i ∧ acc.length ≤ 65536 ∧ Hid (printF L.length L [] = printF f (L.drop i) acc) ∧ St W wr R) (fun _ iv _ => n - (intOf iv).toNat)
        case atStart => exact ⟨0, [], n, Nat.zero_le _, rfl, rfl, by omega, by simp, Lib.hid (by rw [HLN.out]; rfl), hS⟩
        case round =>
          clear hS
          obtain ⟨i, acc, f, hi, rfl, rfl, hf, hacc, HF, hS⟩ := hrel
          by_cases hin : i < n
          · have hinI : (i : Int) < n := by omega
            obtain ⟨f', rfl⟩ : ∃ f', f = f' + 1 := ⟨f - 1, by omega⟩
            obtain ⟨x, hx⟩ : ∃ x, L[i]? = some x := ⟨_, List.getElem?_eq_getElem (by rw [HLN.out]; exact hin)⟩
            have hdr : L.drop i = x :: L.drop (i + 1) := by
              have hlt : i < L.length := by rw [HLN.out]; exact hin
              rw [List.drop_eq_getElem_cons hlt]
              have := List.getElem?_eq_getElem hlt
              rw [hx] at this
              cases this; rfl
            have HDR := Lib.hid hdr
            obtain ⟨ab, ao, rfl, -, -⟩ := act_at (sl_past HSL.out hS) hx
            have HX := Lib.hid hx
            have HRX := Lib.hid (HALL.out x (List.mem_of_getElem? hx))
            have HOX := Lib.hid (HOK.out x (List.mem_of_getElem? hx))
            have hwl := wordA_len2 HOX.out HRX.out
            clear hx hdr
            go_wp2_with fail
            go_loopw [7] (fun nv wr => ∃ m : Nat, 1 ≤ m ∧ m ≤ 1000 ∧ i + m ≤ n ∧ nv = .int .i64 m ∧ Hid (∀ j, j < m → L[i + j]? = some x) ∧ St W wr R) (fun nv _ => n - (intOf nv).toNat)
            case atStart =>
              have H0 : Hid (∀ j, j < 1 → L[i + j]? = some x) := Lib.hid (by
                intro j hj
                obtain rfl : j = 0 := by omega
                exact HX.out)
              exact ⟨1, Nat.le_refl _, by omega, by omega, rfl, H0, hS⟩
            case round =>
              clear hS
              obtain ⟨m, hm1, hm2, him, rfl, HM, hS⟩ := hrel
              have HRUN : Hid ((i + m = n ∨ (∃ y, L[i + m]? = some y ∧ y ≠ x) ∨ m = 1000) → runP (L.drop i) = m) := Lib.hid (by
                intro h
                rw [HDR.out]
                refine run_at hm1 hm2 (fun j hj => ?_) ?_
                · have := HM.out j hj
                  rw [← HDR.out, List.getElem?_drop]; exact this
                · rw [← HDR.out]
                  rcases h with h | ⟨y, hy, hne⟩ | h
                  · left; rw [List.length_drop, HLN.out]; omega
                  · right; left; exact ⟨y, by rw [List.getElem?_drop]; exact hy, hne⟩
                  · right; right; exact h)
              obtain ⟨wx, hwx⟩ : ∃ z, wordA x ++ [10] = z := ⟨_, rfl⟩
              have hwxl : wx.length ≤ 20001 := by rw [← hwx, List.length_append, List.length_singleton]; omega
              have hAT := act_at (sl_past HSL.out hS) HX.out
              obtain ⟨_, _, he, ⟨a0, a1, a2, a3⟩, -⟩ := hAT
              cases he
              have HS := Lib.hid hS
              by_cases hin2 : i + m < n
              · have hin2I : (i : Int) + m < n := by omega
                have hin2J : (0 : Int) ≤ (i : Int) + m := by omega
                have htn : ((i : Int) + (m : Int)).toNat = i + m := by omega
                obtain ⟨y, hy⟩ : ∃ y, L[i + m]? = some y := ⟨_, List.getElem?_eq_getElem (by rw [HLN.out]; exact hin2)⟩
                obtain ⟨_, _, he, ⟨b0, b1, b2, b3⟩, -⟩ := act_at (sl_past HSL.out hS) hy
                cases he
                have heq := eqA y x
                obtain ⟨q, hq⟩ : ∃ b, decide (y = x) = b := ⟨_, rfl⟩
                rw [hq] at heq
                have HQ := Lib.hid hq
                have HY := Lib.hid hy
                clear hq hy hS
                go_upto_region 12 with fail
                cases q with
                | true =>
                  by_cases hm1k : m < 1000
                  · have hm1kI : (m : Int) < 1000 := by omega
                    have HM2 : Hid (∀ j, j < m + 1 → L[i + j]? = some x) := Lib.hid fun j hj => by
                      by_cases hjm : j < m
                      · exact HM.out j hjm
                      · obtain rfl : j = m := by omega
                        rw [HY.out, of_decide_eq_true HQ.out]
                    have HSd := Lib.hid HS.out.drew
                    go_big_region
                    clear a0 a1 a2 a3 b0 b1 b2 b3
                    go_wp2_with fail
                    exact ⟨⟨m + 1, by omega, by omega, by omega, by go_num, HM2, HSd.out⟩, by simp [intOf]; omega⟩
                  · have hm1kI : ¬ (m : Int) < 1000 := by omega
                    have hrun := HRUN.out (.inr (.inr (by omega)))
                    have hS := HS.out.drew
                    clear HS
                    go_big_region
                    clear a0 a1 a2 a3 b0 b1 b2 b3 heq
                    generalize wr.drew = wr at *
                    have HWX : Hid (wordA x ++ [10] = wx) := Lib.hid hwx
                    by_cases hm3 : m < 3
                    · exact absurd hm3 (by omega)
                    · have hm3I : ¬ (m : Int) < 3 := by omega
                      have HNX : Hid (printF (f' + 1) (L.drop i) acc = printF f' (L.drop (i + m)) (acc ++ many3 m x)) := Lib.hid (by
                        rw [HDR.out, print_many hacc (by rw [← HDR.out, hrun]; exact hm3), ← HDR.out, hrun, List.drop_drop])
                      obtain ⟨D, hDD⟩ : ∃ z, Lib.decDigits m = z := ⟨_, rfl⟩
                      have hdl := dec_len10 m (by omega)
                      rw [hDD] at hdl
                      have HDD := Lib.hid hDD
                      have ha1 := run_str_add (P := Tryz.prog) acc [116, 105, 109, 101, 115, 32] (by simp; omega)
                      obtain ⟨t1, ht1⟩ : ∃ z, acc ++ [116, 105, 109, 101, 115, 32] = z := ⟨_, rfl⟩
                      rw [ht1] at ha1
                      have hb1 : t1.length ≤ 65542 := by rw [← ht1]; simp; omega
                      have ha2 := run_str_add (P := Tryz.prog) t1 D (by omega)
                      obtain ⟨t2, ht2⟩ : ∃ z, t1 ++ D = z := ⟨_, rfl⟩
                      rw [ht2] at ha2
                      have hb2 : t2.length ≤ 65572 := by rw [← ht2, List.length_append]; omega
                      have ha3 := run_str_add (P := Tryz.prog) t2 [10] (by simp; omega)
                      obtain ⟨t3, ht3⟩ : ∃ z, t2 ++ [10] = z := ⟨_, rfl⟩
                      rw [ht3] at ha3
                      have hb3 : t3.length ≤ 65573 := by rw [← ht3, List.length_append]; simp; omega
                      have ha4 := run_str_add (P := Tryz.prog) t3 wx (by omega)
                      obtain ⟨t4, ht4⟩ : ∃ z, t3 ++ wx = z := ⟨_, rfl⟩
                      rw [ht4] at ha4
                      have hb4 : t4.length ≤ 85600 := by rw [← ht4, List.length_append]; omega
                      have ha5 := run_str_add (P := Tryz.prog) t4 [101, 110, 100, 10] (by simp; omega)
                      obtain ⟨t5, ht5⟩ : ∃ z, t4 ++ [101, 110, 100, 10] = z := ⟨_, rfl⟩
                      rw [ht5] at ha5
                      have hb5 : t5.length ≤ 85700 := by rw [← ht5, List.length_append]; simp; omega
                      have hm3e : acc ++ many3 m x = t5 := by
                        rw [← ht5, ← ht4, ← ht3, ← ht2, ← ht1, ← hDD, ← hwx]
                        simp [many3, wTimes, wEnd]
                      rw [hm3e] at HNX
                      clear ht1 ht2 ht3 ht4 ht5 hDD hm3e hrun hwx
                      go_upto_region 17 with fail
                      have HC : Hid (∀ w A, St W w A → ActAt ab (ao + i * 4) x w) := Lib.hid fun w A h => by
                        obtain ⟨_, _, he, h2, -⟩ := act_at (sl_past HSL.out h) HX.out
                        cases he
                        exact h2
                      have hd := hS.drew
                      clear hS
                      refine Go.Proofs.YtcjlbimmplejjaaGreatDoor.Held.wp_region_held (ActAt ab (ao + i * 4) x) [] tr17 (by kernel_rfl) (by kernel_rfl) (HC.out _ _ hd) ?_
                      generalize wr.drew = w4 at *
                      unfold tr17
                      refine tr_plain (.string ⟨acc.toArray⟩) rfl ?_ (by simp only [nthOp, Act.put, List.setIfInBounds_toArray, List.set_cons_succ, List.set_cons_zero]; rfl) ?_
                      · exact fun _ => rfl
                      refine tr_plain (.string ⟨t1.toArray⟩) rfl ?_ (by simp only [nthOp, Act.put, List.setIfInBounds_toArray, List.set_cons_succ, List.set_cons_zero]; rfl) ?_
                      · (intro w'; simp only [nthOp]; go_simp)
                      refine tr_plain (.int .i64 (m : Nat)) rfl ?_ (by simp only [nthOp, Act.put, List.setIfInBounds_toArray, List.set_cons_succ, List.set_cons_zero]; rfl) ?_
                      · exact fun _ => rfl
                      refine tr_plain (.slice (some ⟨ab, ao, none⟩) n c) rfl ?_ (by simp only [nthOp, Act.put, List.setIfInBounds_toArray, List.set_cons_succ, List.set_cons_zero]; rfl) ?_
                      · exact fun _ => rfl
                      refine tr_plain (.int .i64 (i : Nat)) rfl ?_ (by simp only [nthOp, Act.put, List.setIfInBounds_toArray, List.set_cons_succ, List.set_cons_zero]; rfl) ?_
                      · exact fun _ => rfl
                      refine tr_plain (.pointer (some ⟨ab, ao + i * 4, none⟩)) rfl ?_ (by simp only [nthOp, Act.put, List.setIfInBounds_toArray, List.set_cons_succ, List.set_cons_zero]; rfl) ?_
                      · (intro w'; simp only [nthOp]; go_simp)
                      refine tr_held (.agg #[.int .u8 (x.k : Nat), .int .i64 x.c, .int .i64 x.n, .string ⟨x.s.toArray⟩]) rfl ?_ (by simp only [nthOp, Act.put, List.setIfInBounds_toArray, List.set_cons_succ, List.set_cons_zero]; rfl) ?_
                      · (rintro w' ⟨hc0, hc1, hc2, hc3⟩; simp only [nthOp]; go_simp)
                      have HDg := Lib.hid (digits_any m (by omega) _ _ _ hd)
                      rw [HDD.out] at HDg
                      clear hd
                      refine tr_one ?_
                      simp only [nthOp]
                      go_wp2_with fail
                      refine HDg.out.mono ?_
                      rintro e w5 ⟨rfl, h5⟩
                      clear HDg
                      go_wp2_with fail
                      simp only [Reg.Next]
                      refine ⟨fun _ => HC.out _ _ h5, ?_⟩
                      refine tr_plain (.string ⟨t2.toArray⟩) rfl ?_ (by simp only [nthOp, Act.put, List.setIfInBounds_toArray, List.set_cons_succ, List.set_cons_zero]; rfl) ?_
                      · (intro w'; simp only [nthOp]; go_simp)
                      refine tr_plain (.string ⟨t3.toArray⟩) rfl ?_ (by simp only [nthOp, Act.put, List.setIfInBounds_toArray, List.set_cons_succ, List.set_cons_zero]; rfl) ?_
                      · (intro w'; simp only [nthOp]; go_simp)
                      have HLn := Lib.hid (rLine_any x HRX.out h5)
                      rw [HWX.out] at HLn
                      clear h5
                      refine tr_one ?_
                      simp only [nthOp]
                      go_wp2_with fail
                      refine HLn.out.mono ?_
                      rintro e w6 ⟨rfl, hS⟩
                      clear HLn
                      go_wp2_with fail
                      simp only [Reg.Next]
                      refine ⟨fun _ => HC.out _ _ hS, ?_⟩
                      refine tr_plain (.string ⟨t4.toArray⟩) rfl ?_ (by simp only [nthOp, Act.put, List.setIfInBounds_toArray, List.set_cons_succ, List.set_cons_zero]; rfl) ?_
                      · (intro w'; simp only [nthOp]; go_simp)
                      refine tr_plain (.string ⟨t5.toArray⟩) rfl ?_ (by simp only [nthOp, Act.put, List.setIfInBounds_toArray, List.set_cons_succ, List.set_cons_zero]; rfl) ?_
                      · (intro w'; simp only [nthOp]; go_simp)
                      refine tr_plain (.string ⟨t5.toArray⟩) rfl ?_ (by simp only [nthOp, Act.put, List.setIfInBounds_toArray, List.set_cons_succ, List.set_cons_zero]; rfl) ?_
                      · exact fun _ => rfl
                      refine tr_done ?_
                      by_cases hbig : 65536 < t5.length
                      · have hbigI : (65536 : Int) < t5.length := by omega
                        have HPF : Hid (printP L = ([], 3)) := Lib.hid (by rw [HP.out, HF.out, HNX.out, printF_long _ _ _ hbig, if_pos hbig])
                        have HS := Lib.hid hS
                        clear hS
                        go_wp2
                        go_ret2
                        exact ⟨by rw [HPF.out]; rfl, HS.out⟩
                      · have hbigI : ¬ (65536 : Int) < t5.length := by omega
                        have HF2 : Hid (printF L.length L [] = printF f' (L.drop (i + m)) t5) := Lib.hid (by rw [HF.out, HNX.out])
                        go_wp2_with fail
                        exact ⟨⟨i + m, t5, f', by omega, by go_num, rfl, by omega, by omega, HF2, hS⟩, by simp [intOf]; omega⟩
                | false =>
                  have hrun := HRUN.out (.inr (.inl ⟨y, HY.out, by have := HQ.out; simpa using this⟩))
                  have hS := HS.out.drew
                  clear HS
                  go_big_region
                  clear a0 a1 a2 a3 b0 b1 b2 b3 heq
                  generalize wr.drew = wr at *
                  have HWX : Hid (wordA x ++ [10] = wx) := Lib.hid hwx
                  by_cases hm3 : m < 3
                  · have hm3I : (m : Int) < 3 := by omega
                    have HNX : Hid (printF (f' + 1) (L.drop i) acc = printF f' (L.drop (i + 1)) (acc ++ wx)) := Lib.hid (by
                      rw [HDR.out, print_short hacc (by rw [← HDR.out, hrun]; exact hm3), HWX.out])
                    obtain ⟨_, _, he, ⟨a0, a1, a2, a3⟩, -⟩ := act_at (sl_past HSL.out hS) HX.out
                    cases he
                    have HLn := Lib.hid (rLine_any x HRX.out hS)
                    rw [HWX.out] at HLn
                    have ha1 := run_str_add (P := Tryz.prog) acc wx (by omega)
                    obtain ⟨nx, hnx⟩ : ∃ z, acc ++ wx = z := ⟨_, rfl⟩
                    rw [hnx] at ha1 HNX
                    have hnl : nx.length ≤ 90000 := by rw [← hnx, List.length_append]; omega
                    clear hS hnx hrun hwx
                    go_wp2_with fail
                    refine HLn.out.mono ?_
                    rintro e w5 ⟨rfl, hS⟩
                    clear HLn a0 a1 a2 a3
                    by_cases hbig : 65536 < nx.length
                    · have hbigI : (65536 : Int) < nx.length := by omega
                      have HPF : Hid (printP L = ([], 3)) := Lib.hid (by rw [HP.out, HF.out, HNX.out, printF_long _ _ _ hbig, if_pos hbig])
                      have HS := Lib.hid hS
                      clear hS
                      go_wp2
                      go_ret2
                      exact ⟨by rw [HPF.out]; rfl, HS.out⟩
                    · have hbigI : ¬ (65536 : Int) < nx.length := by omega
                      have HF2 : Hid (printF L.length L [] = printF f' (L.drop (i + 1)) nx) := Lib.hid (by rw [HF.out, HNX.out])
                      go_wp2_with fail
                      exact ⟨⟨i + 1, nx, f', by omega, by go_num, rfl, by omega, by omega, HF2, hS⟩, by simp [intOf]; omega⟩
                  · have hm3I : ¬ (m : Int) < 3 := by omega
                    have HNX : Hid (printF (f' + 1) (L.drop i) acc = printF f' (L.drop (i + m)) (acc ++ many3 m x)) := Lib.hid (by
                      rw [HDR.out, print_many hacc (by rw [← HDR.out, hrun]; exact hm3), ← HDR.out, hrun, List.drop_drop])
                    obtain ⟨D, hDD⟩ : ∃ z, Lib.decDigits m = z := ⟨_, rfl⟩
                    have hdl := dec_len10 m (by omega)
                    rw [hDD] at hdl
                    have HDD := Lib.hid hDD
                    have ha1 := run_str_add (P := Tryz.prog) acc [116, 105, 109, 101, 115, 32] (by simp; omega)
                    obtain ⟨t1, ht1⟩ : ∃ z, acc ++ [116, 105, 109, 101, 115, 32] = z := ⟨_, rfl⟩
                    rw [ht1] at ha1
                    have hb1 : t1.length ≤ 65542 := by rw [← ht1]; simp; omega
                    have ha2 := run_str_add (P := Tryz.prog) t1 D (by omega)
                    obtain ⟨t2, ht2⟩ : ∃ z, t1 ++ D = z := ⟨_, rfl⟩
                    rw [ht2] at ha2
                    have hb2 : t2.length ≤ 65572 := by rw [← ht2, List.length_append]; omega
                    have ha3 := run_str_add (P := Tryz.prog) t2 [10] (by simp; omega)
                    obtain ⟨t3, ht3⟩ : ∃ z, t2 ++ [10] = z := ⟨_, rfl⟩
                    rw [ht3] at ha3
                    have hb3 : t3.length ≤ 65573 := by rw [← ht3, List.length_append]; simp; omega
                    have ha4 := run_str_add (P := Tryz.prog) t3 wx (by omega)
                    obtain ⟨t4, ht4⟩ : ∃ z, t3 ++ wx = z := ⟨_, rfl⟩
                    rw [ht4] at ha4
                    have hb4 : t4.length ≤ 85600 := by rw [← ht4, List.length_append]; omega
                    have ha5 := run_str_add (P := Tryz.prog) t4 [101, 110, 100, 10] (by simp; omega)
                    obtain ⟨t5, ht5⟩ : ∃ z, t4 ++ [101, 110, 100, 10] = z := ⟨_, rfl⟩
                    rw [ht5] at ha5
                    have hb5 : t5.length ≤ 85700 := by rw [← ht5, List.length_append]; simp; omega
                    have hm3e : acc ++ many3 m x = t5 := by
                      rw [← ht5, ← ht4, ← ht3, ← ht2, ← ht1, ← hDD, ← hwx]
                      simp [many3, wTimes, wEnd]
                    rw [hm3e] at HNX
                    clear ht1 ht2 ht3 ht4 ht5 hDD hm3e hrun hwx
                    go_upto_region 17 with fail
                    have HC : Hid (∀ w A, St W w A → ActAt ab (ao + i * 4) x w) := Lib.hid fun w A h => by
                      obtain ⟨_, _, he, h2, -⟩ := act_at (sl_past HSL.out h) HX.out
                      cases he
                      exact h2
                    have hd := hS.drew
                    clear hS
                    refine Go.Proofs.YtcjlbimmplejjaaGreatDoor.Held.wp_region_held (ActAt ab (ao + i * 4) x) [] tr17 (by kernel_rfl) (by kernel_rfl) (HC.out _ _ hd) ?_
                    generalize wr.drew = w4 at *
                    unfold tr17
                    refine tr_plain (.string ⟨acc.toArray⟩) rfl ?_ (by simp only [nthOp, Act.put, List.setIfInBounds_toArray, List.set_cons_succ, List.set_cons_zero]; rfl) ?_
                    · exact fun _ => rfl
                    refine tr_plain (.string ⟨t1.toArray⟩) rfl ?_ (by simp only [nthOp, Act.put, List.setIfInBounds_toArray, List.set_cons_succ, List.set_cons_zero]; rfl) ?_
                    · (intro w'; simp only [nthOp]; go_simp)
                    refine tr_plain (.int .i64 (m : Nat)) rfl ?_ (by simp only [nthOp, Act.put, List.setIfInBounds_toArray, List.set_cons_succ, List.set_cons_zero]; rfl) ?_
                    · exact fun _ => rfl
                    refine tr_plain (.slice (some ⟨ab, ao, none⟩) n c) rfl ?_ (by simp only [nthOp, Act.put, List.setIfInBounds_toArray, List.set_cons_succ, List.set_cons_zero]; rfl) ?_
                    · exact fun _ => rfl
                    refine tr_plain (.int .i64 (i : Nat)) rfl ?_ (by simp only [nthOp, Act.put, List.setIfInBounds_toArray, List.set_cons_succ, List.set_cons_zero]; rfl) ?_
                    · exact fun _ => rfl
                    refine tr_plain (.pointer (some ⟨ab, ao + i * 4, none⟩)) rfl ?_ (by simp only [nthOp, Act.put, List.setIfInBounds_toArray, List.set_cons_succ, List.set_cons_zero]; rfl) ?_
                    · (intro w'; simp only [nthOp]; go_simp)
                    refine tr_held (.agg #[.int .u8 (x.k : Nat), .int .i64 x.c, .int .i64 x.n, .string ⟨x.s.toArray⟩]) rfl ?_ (by simp only [nthOp, Act.put, List.setIfInBounds_toArray, List.set_cons_succ, List.set_cons_zero]; rfl) ?_
                    · (rintro w' ⟨hc0, hc1, hc2, hc3⟩; simp only [nthOp]; go_simp)
                    have HDg := Lib.hid (digits_any m (by omega) _ _ _ hd)
                    rw [HDD.out] at HDg
                    clear hd
                    refine tr_one ?_
                    simp only [nthOp]
                    go_wp2_with fail
                    refine HDg.out.mono ?_
                    rintro e w5 ⟨rfl, h5⟩
                    clear HDg
                    go_wp2_with fail
                    simp only [Reg.Next]
                    refine ⟨fun _ => HC.out _ _ h5, ?_⟩
                    refine tr_plain (.string ⟨t2.toArray⟩) rfl ?_ (by simp only [nthOp, Act.put, List.setIfInBounds_toArray, List.set_cons_succ, List.set_cons_zero]; rfl) ?_
                    · (intro w'; simp only [nthOp]; go_simp)
                    refine tr_plain (.string ⟨t3.toArray⟩) rfl ?_ (by simp only [nthOp, Act.put, List.setIfInBounds_toArray, List.set_cons_succ, List.set_cons_zero]; rfl) ?_
                    · (intro w'; simp only [nthOp]; go_simp)
                    have HLn := Lib.hid (rLine_any x HRX.out h5)
                    rw [HWX.out] at HLn
                    clear h5
                    refine tr_one ?_
                    simp only [nthOp]
                    go_wp2_with fail
                    refine HLn.out.mono ?_
                    rintro e w6 ⟨rfl, hS⟩
                    clear HLn
                    go_wp2_with fail
                    simp only [Reg.Next]
                    refine ⟨fun _ => HC.out _ _ hS, ?_⟩
                    refine tr_plain (.string ⟨t4.toArray⟩) rfl ?_ (by simp only [nthOp, Act.put, List.setIfInBounds_toArray, List.set_cons_succ, List.set_cons_zero]; rfl) ?_
                    · (intro w'; simp only [nthOp]; go_simp)
                    refine tr_plain (.string ⟨t5.toArray⟩) rfl ?_ (by simp only [nthOp, Act.put, List.setIfInBounds_toArray, List.set_cons_succ, List.set_cons_zero]; rfl) ?_
                    · (intro w'; simp only [nthOp]; go_simp)
                    refine tr_plain (.string ⟨t5.toArray⟩) rfl ?_ (by simp only [nthOp, Act.put, List.setIfInBounds_toArray, List.set_cons_succ, List.set_cons_zero]; rfl) ?_
                    · exact fun _ => rfl
                    refine tr_done ?_
                    by_cases hbig : 65536 < t5.length
                    · have hbigI : (65536 : Int) < t5.length := by omega
                      have HPF : Hid (printP L = ([], 3)) := Lib.hid (by rw [HP.out, HF.out, HNX.out, printF_long _ _ _ hbig, if_pos hbig])
                      have HS := Lib.hid hS
                      clear hS
                      go_wp2
                      go_ret2
                      exact ⟨by rw [HPF.out]; rfl, HS.out⟩
                    · have hbigI : ¬ (65536 : Int) < t5.length := by omega
                      have HF2 : Hid (printF L.length L [] = printF f' (L.drop (i + m)) t5) := Lib.hid (by rw [HF.out, HNX.out])
                      go_wp2_with fail
                      exact ⟨⟨i + m, t5, f', by omega, by go_num, rfl, by omega, by omega, HF2, hS⟩, by simp [intOf]; omega⟩
              · have hin2I : ¬ (i : Int) + m < n := by omega
                have hrun := HRUN.out (.inl (by omega))
                have hS2 := hS.drew
                clear HS hS
                have hS := hS2
                clear hS2
                go_upto_region 12 with fail
                go_big_region
                clear a0 a1 a2 a3
                generalize wr.drew = wr at *
                have HWX : Hid (wordA x ++ [10] = wx) := Lib.hid hwx
                by_cases hm3 : m < 3
                · have hm3I : (m : Int) < 3 := by omega
                  have HNX : Hid (printF (f' + 1) (L.drop i) acc = printF f' (L.drop (i + 1)) (acc ++ wx)) := Lib.hid (by
                    rw [HDR.out, print_short hacc (by rw [← HDR.out, hrun]; exact hm3), HWX.out])
                  obtain ⟨_, _, he, ⟨a0, a1, a2, a3⟩, -⟩ := act_at (sl_past HSL.out hS) HX.out
                  cases he
                  have HLn := Lib.hid (rLine_any x HRX.out hS)
                  rw [HWX.out] at HLn
                  have ha1 := run_str_add (P := Tryz.prog) acc wx (by omega)
                  obtain ⟨nx, hnx⟩ : ∃ z, acc ++ wx = z := ⟨_, rfl⟩
                  rw [hnx] at ha1 HNX
                  have hnl : nx.length ≤ 90000 := by rw [← hnx, List.length_append]; omega
                  clear hS hnx hrun hwx
                  go_wp2_with fail
                  refine HLn.out.mono ?_
                  rintro e w5 ⟨rfl, hS⟩
                  clear HLn a0 a1 a2 a3
                  by_cases hbig : 65536 < nx.length
                  · have hbigI : (65536 : Int) < nx.length := by omega
                    have HPF : Hid (printP L = ([], 3)) := Lib.hid (by rw [HP.out, HF.out, HNX.out, printF_long _ _ _ hbig, if_pos hbig])
                    have HS := Lib.hid hS
                    clear hS
                    go_wp2
                    go_ret2
                    exact ⟨by rw [HPF.out]; rfl, HS.out⟩
                  · have hbigI : ¬ (65536 : Int) < nx.length := by omega
                    have HF2 : Hid (printF L.length L [] = printF f' (L.drop (i + 1)) nx) := Lib.hid (by rw [HF.out, HNX.out])
                    go_wp2_with fail
                    exact ⟨⟨i + 1, nx, f', by omega, by go_num, rfl, by omega, by omega, HF2, hS⟩, by simp [intOf]; omega⟩
                · have hm3I : ¬ (m : Int) < 3 := by omega
                  have HNX : Hid (printF (f' + 1) (L.drop i) acc = printF f' (L.drop (i + m)) (acc ++ many3 m x)) := Lib.hid (by
                    rw [HDR.out, print_many hacc (by rw [← HDR.out, hrun]; exact hm3), ← HDR.out, hrun, List.drop_drop])
                  obtain ⟨D, hDD⟩ : ∃ z, Lib.decDigits m = z := ⟨_, rfl⟩
                  have hdl := dec_len10 m (by omega)
                  rw [hDD] at hdl
                  have HDD := Lib.hid hDD
                  have ha1 := run_str_add (P := Tryz.prog) acc [116, 105, 109, 101, 115, 32] (by simp; omega)
                  obtain ⟨t1, ht1⟩ : ∃ z, acc ++ [116, 105, 109, 101, 115, 32] = z := ⟨_, rfl⟩
                  rw [ht1] at ha1
                  have hb1 : t1.length ≤ 65542 := by rw [← ht1]; simp; omega
                  have ha2 := run_str_add (P := Tryz.prog) t1 D (by omega)
                  obtain ⟨t2, ht2⟩ : ∃ z, t1 ++ D = z := ⟨_, rfl⟩
                  rw [ht2] at ha2
                  have hb2 : t2.length ≤ 65572 := by rw [← ht2, List.length_append]; omega
                  have ha3 := run_str_add (P := Tryz.prog) t2 [10] (by simp; omega)
                  obtain ⟨t3, ht3⟩ : ∃ z, t2 ++ [10] = z := ⟨_, rfl⟩
                  rw [ht3] at ha3
                  have hb3 : t3.length ≤ 65573 := by rw [← ht3, List.length_append]; simp; omega
                  have ha4 := run_str_add (P := Tryz.prog) t3 wx (by omega)
                  obtain ⟨t4, ht4⟩ : ∃ z, t3 ++ wx = z := ⟨_, rfl⟩
                  rw [ht4] at ha4
                  have hb4 : t4.length ≤ 85600 := by rw [← ht4, List.length_append]; omega
                  have ha5 := run_str_add (P := Tryz.prog) t4 [101, 110, 100, 10] (by simp; omega)
                  obtain ⟨t5, ht5⟩ : ∃ z, t4 ++ [101, 110, 100, 10] = z := ⟨_, rfl⟩
                  rw [ht5] at ha5
                  have hb5 : t5.length ≤ 85700 := by rw [← ht5, List.length_append]; simp; omega
                  have hm3e : acc ++ many3 m x = t5 := by
                    rw [← ht5, ← ht4, ← ht3, ← ht2, ← ht1, ← hDD, ← hwx]
                    simp [many3, wTimes, wEnd]
                  rw [hm3e] at HNX
                  clear ht1 ht2 ht3 ht4 ht5 hDD hm3e hrun hwx
                  go_upto_region 17 with fail
                  have HC : Hid (∀ w A, St W w A → ActAt ab (ao + i * 4) x w) := Lib.hid fun w A h => by
                    obtain ⟨_, _, he, h2, -⟩ := act_at (sl_past HSL.out h) HX.out
                    cases he
                    exact h2
                  have hd := hS.drew
                  clear hS
                  refine Go.Proofs.YtcjlbimmplejjaaGreatDoor.Held.wp_region_held (ActAt ab (ao + i * 4) x) [] tr17 (by kernel_rfl) (by kernel_rfl) (HC.out _ _ hd) ?_
                  generalize wr.drew = w4 at *
                  unfold tr17
                  refine tr_plain (.string ⟨acc.toArray⟩) rfl ?_ (by simp only [nthOp, Act.put, List.setIfInBounds_toArray, List.set_cons_succ, List.set_cons_zero]; rfl) ?_
                  · exact fun _ => rfl
                  refine tr_plain (.string ⟨t1.toArray⟩) rfl ?_ (by simp only [nthOp, Act.put, List.setIfInBounds_toArray, List.set_cons_succ, List.set_cons_zero]; rfl) ?_
                  · (intro w'; simp only [nthOp]; go_simp)
                  refine tr_plain (.int .i64 (m : Nat)) rfl ?_ (by simp only [nthOp, Act.put, List.setIfInBounds_toArray, List.set_cons_succ, List.set_cons_zero]; rfl) ?_
                  · exact fun _ => rfl
                  refine tr_plain (.slice (some ⟨ab, ao, none⟩) n c) rfl ?_ (by simp only [nthOp, Act.put, List.setIfInBounds_toArray, List.set_cons_succ, List.set_cons_zero]; rfl) ?_
                  · exact fun _ => rfl
                  refine tr_plain (.int .i64 (i : Nat)) rfl ?_ (by simp only [nthOp, Act.put, List.setIfInBounds_toArray, List.set_cons_succ, List.set_cons_zero]; rfl) ?_
                  · exact fun _ => rfl
                  refine tr_plain (.pointer (some ⟨ab, ao + i * 4, none⟩)) rfl ?_ (by simp only [nthOp, Act.put, List.setIfInBounds_toArray, List.set_cons_succ, List.set_cons_zero]; rfl) ?_
                  · (intro w'; simp only [nthOp]; go_simp)
                  refine tr_held (.agg #[.int .u8 (x.k : Nat), .int .i64 x.c, .int .i64 x.n, .string ⟨x.s.toArray⟩]) rfl ?_ (by simp only [nthOp, Act.put, List.setIfInBounds_toArray, List.set_cons_succ, List.set_cons_zero]; rfl) ?_
                  · (rintro w' ⟨hc0, hc1, hc2, hc3⟩; simp only [nthOp]; go_simp)
                  have HDg := Lib.hid (digits_any m (by omega) _ _ _ hd)
                  rw [HDD.out] at HDg
                  clear hd
                  refine tr_one ?_
                  simp only [nthOp]
                  go_wp2_with fail
                  refine HDg.out.mono ?_
                  rintro e w5 ⟨rfl, h5⟩
                  clear HDg
                  go_wp2_with fail
                  simp only [Reg.Next]
                  refine ⟨fun _ => HC.out _ _ h5, ?_⟩
                  refine tr_plain (.string ⟨t2.toArray⟩) rfl ?_ (by simp only [nthOp, Act.put, List.setIfInBounds_toArray, List.set_cons_succ, List.set_cons_zero]; rfl) ?_
                  · (intro w'; simp only [nthOp]; go_simp)
                  refine tr_plain (.string ⟨t3.toArray⟩) rfl ?_ (by simp only [nthOp, Act.put, List.setIfInBounds_toArray, List.set_cons_succ, List.set_cons_zero]; rfl) ?_
                  · (intro w'; simp only [nthOp]; go_simp)
                  have HLn := Lib.hid (rLine_any x HRX.out h5)
                  rw [HWX.out] at HLn
                  clear h5
                  refine tr_one ?_
                  simp only [nthOp]
                  go_wp2_with fail
                  refine HLn.out.mono ?_
                  rintro e w6 ⟨rfl, hS⟩
                  clear HLn
                  go_wp2_with fail
                  simp only [Reg.Next]
                  refine ⟨fun _ => HC.out _ _ hS, ?_⟩
                  refine tr_plain (.string ⟨t4.toArray⟩) rfl ?_ (by simp only [nthOp, Act.put, List.setIfInBounds_toArray, List.set_cons_succ, List.set_cons_zero]; rfl) ?_
                  · (intro w'; simp only [nthOp]; go_simp)
                  refine tr_plain (.string ⟨t5.toArray⟩) rfl ?_ (by simp only [nthOp, Act.put, List.setIfInBounds_toArray, List.set_cons_succ, List.set_cons_zero]; rfl) ?_
                  · (intro w'; simp only [nthOp]; go_simp)
                  refine tr_plain (.string ⟨t5.toArray⟩) rfl ?_ (by simp only [nthOp, Act.put, List.setIfInBounds_toArray, List.set_cons_succ, List.set_cons_zero]; rfl) ?_
                  · exact fun _ => rfl
                  refine tr_done ?_
                  by_cases hbig : 65536 < t5.length
                  · have hbigI : (65536 : Int) < t5.length := by omega
                    have HPF : Hid (printP L = ([], 3)) := Lib.hid (by rw [HP.out, HF.out, HNX.out, printF_long _ _ _ hbig, if_pos hbig])
                    have HS := Lib.hid hS
                    clear hS
                    go_wp2
                    go_ret2
                    exact ⟨by rw [HPF.out]; rfl, HS.out⟩
                  · have hbigI : ¬ (65536 : Int) < t5.length := by omega
                    have HF2 : Hid (printF L.length L [] = printF f' (L.drop (i + m)) t5) := Lib.hid (by rw [HF.out, HNX.out])
                    go_wp2_with fail
                    exact ⟨⟨i + m, t5, f', by omega, by go_num, rfl, by omega, by omega, HF2, hS⟩, by simp [intOf]; omega⟩
          · obtain rfl : n = i := by omega
            have HPF : Hid (printP L = (acc, 0)) := Lib.hid (by
              have e : L.drop n = [] := by rw [List.drop_eq_nil_iff, HLN.out]; exact Nat.le_refl _
              have e2 : printF f (L.drop n) acc = acc := by rw [e]; cases f <;> rfl
              rw [HP.out, HF.out, e2, if_neg (by omega)])
            have HS := Lib.hid hS
            clear hS
            go_wp2
            go_ret2
            exact ⟨by rw [HPF.out]; rfl, HS.out⟩
end Go.Proofs.YtcjlbimmplejjaaGreatDoor.ScPd
