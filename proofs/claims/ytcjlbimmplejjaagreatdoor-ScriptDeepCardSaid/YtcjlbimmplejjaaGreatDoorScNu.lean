import Derived.Test.YtcjlbimmplejjaaGreatDoorScK
import Derived.Test.YtcjlbimmplejjaaGreatDoorGen
namespace Go.Proofs.YtcjlbimmplejjaaGreatDoor.ScNu
open Go Go.RowKit Go.Proofs Go.Proofs.YtcjlbimmplejjaaGreatDoor.Sep Go.Proofs.YtcjlbimmplejjaaGreatDoor.Reg Go.Proofs.YtcjlbimmplejjaaGreatDoor.Fork Go.Proofs.YtcjlbimmplejjaaGreatDoor.Held Go.Proofs.YtcjlbimmplejjaaGreatDoor.Frame Go.Proofs.YtcjlbimmplejjaaGreatDoor.WdP Go.Proofs.YtcjlbimmplejjaaGreatDoor.WdT Go.Proofs.YtcjlbimmplejjaaGreatDoor.ScP

theorem dec_more {n : Nat} (h : 10 ≤ n) : Lib.decDigits n = Lib.decDigits (n / 10) ++ [UInt8.ofNat (48 + n % 10)] := by
  rw [Lib.decDigits, dif_neg (by omega)]
theorem dec_len (n : Nat) : (Lib.decDigits n).length ≤ n + 1 := by
  induction n using Nat.strongRecOn with
  | _ n ih =>
    by_cases h : n < 10
    · rw [Lib.decDigits_one h]; simp
    · rw [dec_more (by omega), List.length_append]
      have := ih (n / 10) (by omega)
      simp only [List.length_singleton]
      omega
def trN : Tr := .plain 0 (.plain 1 (.plain 3 (.plain 4 (.plain 5 (.plain 6 (.two 2 (.one 7 (.one 8 (.plain 9 (.plain 10 .done)))) 7 (.two 2 (.one 8 (.plain 9 (.plain 10 .done))) 8 (.one 2 (.plain 9 (.plain 10 .done))))))))))
set_option maxRecDepth 100000 in
set_option maxHeartbeats 4000000 in
theorem number_any : ∀ n : Nat, n ≤ 1000000 → ∀ (W w : World) (R : Asn), St W w R → Calls Tryz.prog 20 #[.int .i64 n] w fun e w' => e = .returned (.string ⟨(Lib.decDigits n).toArray⟩) ∧ St W w' R := by
  intro n
  induction n using Nat.strongRecOn with
  | _ n ih =>
  intro hn W w R h
  have IH := Lib.hid ih
  clear ih
  by_cases h10 : n < 10
  · have h10I : (n : Int) < 10 := by omega
    have hdd := Lib.decDigits_one h10
    have hby : ((UInt8.ofNat (48 + n)).toNat : Int) = (48 + n : Nat) := by
      have : (UInt8.ofNat (48 + n)).toNat = 48 + n := by simp; omega
      rw [this]
    obtain ⟨c, hc⟩ : ∃ c, UInt8.ofNat (48 + n) = c := ⟨_, rfl⟩
    rw [hc] at hdd hby
    have hcI : (48 : Int) + n = (c.toNat : Int) := by omega
    have hlt := c.toNat_lt
    have hcv := run_string_one (P := Tryz.prog) 67 9 5 Tryz.underlying67 Tryz.underlying5 Tryz.underlying9 w w.heap.size rfl (c.toNat : Int) c.toNat rfl hlt (0, 0)
    rw [show UInt8.ofNat c.toNat = c from by simp] at hcv
    have HD := Lib.hid hdd
    have hA := h.alloc (.cells #[.int .u8 c.toNat] 5 (0, 0))
    have H2 := Lib.hid hA.right
    clear hA h IH hdd hby hc
    go_enter Tryz.func20, Tryz.ntmps20
    go_wp2
    go_ret
    exact ⟨by rw [HD.out]; rfl, H2.out⟩
  · have h10I : ¬ (n : Int) < 10 := by omega
    obtain ⟨q, hq⟩ : ∃ q, n / 10 = q := ⟨_, rfl⟩
    obtain ⟨r, hr⟩ : ∃ r, n % 10 = r := ⟨_, rfl⟩
    have hdm := dec_more (n := n) (by omega)
    rw [hq, hr] at hdm
    have hr10 : r < 10 := by omega
    have hqI : (n : Int).tdiv 10 = (q : Int) := by rw [Int.tdiv_eq_ediv_of_nonneg (by omega)]; omega
    have hrI : (n : Int).tmod 10 = (r : Int) := by rw [Int.tmod_eq_emod_of_nonneg (by omega)]; omega
    have hIH : ∀ (w : World) (A : Asn), St W w A → Calls Tryz.prog 20 #[.int .i64 q] w fun e w' => e = .returned (.string ⟨(Lib.decDigits q).toArray⟩) ∧ St W w' A := fun w A hS => IH.out q (by omega) (by omega) W w A hS
    have hbl := dec_len q
    have hq6 : q ≤ 1000000 := by omega
    have hadd := run_str_add (P := Tryz.prog) (Lib.decDigits q) [UInt8.ofNat (48 + r)] (by simp; omega)
    rw [← hdm] at hadd
    have hby : ((UInt8.ofNat (48 + r)).toNat : Int) = (48 + r : Nat) := by
      have : (UInt8.ofNat (48 + r)).toNat = 48 + r := by simp; omega
      rw [this]
    obtain ⟨D, hD⟩ : ∃ D, Lib.decDigits n = D := ⟨_, rfl⟩
    obtain ⟨E, hE⟩ : ∃ E, Lib.decDigits q = E := ⟨_, rfl⟩
    obtain ⟨c, hc⟩ : ∃ c, UInt8.ofNat (48 + r) = c := ⟨_, rfl⟩
    have hIH2 := Lib.hid hIH
    rw [hE] at hadd hIH2
    rw [hD] at hadd ⊢
    rw [hc] at hadd hby
    have hcI : (48 : Int) + r = (c.toNat : Int) := by omega
    have HADD := Lib.hid hadd
    clear hadd hdm hD hE hc hq hr hbl hIH IH hby
    have hlt := c.toNat_lt
    go_enter Tryz.func20, Tryz.ntmps20
    go_upto_region 3 with fail
    refine Go.Proofs.YtcjlbimmplejjaaGreatDoor.Held.wp_region_held (fun _ => True) [] trN (by kernel_rfl) (by kernel_rfl) trivial ?_
    have hd := h.drew
    clear h
    generalize w.drew = w4 at *
    unfold trN
    refine tr_plain (.int .i64 n) rfl ?_ (by simp only [nthOp, Act.put, List.setIfInBounds_toArray, List.set_cons_succ, List.set_cons_zero]; rfl) ?_
    · exact fun _ => rfl
    refine tr_plain (.int .i64 q) rfl ?_ (by simp only [nthOp, Act.put, List.setIfInBounds_toArray, List.set_cons_succ, List.set_cons_zero]; rfl) ?_
    · (intro w'; simp only [nthOp]; go_simp <;> first | done | (rw [IntKind.wrap_i64]; omega) | (rw [IntKind.wrap_u8]; omega) | skip)
    refine tr_plain (.int .i64 n) rfl ?_ (by simp only [nthOp, Act.put, List.setIfInBounds_toArray, List.set_cons_succ, List.set_cons_zero]; rfl) ?_
    · exact fun _ => rfl
    refine tr_plain (.int .i64 r) rfl ?_ (by simp only [nthOp, Act.put, List.setIfInBounds_toArray, List.set_cons_succ, List.set_cons_zero]; rfl) ?_
    · (intro w'; simp only [nthOp]; go_simp <;> first | done | (rw [IntKind.wrap_i64]; omega) | (rw [IntKind.wrap_u8]; omega) | skip)
    refine tr_plain (.int .i64 c.toNat) rfl ?_ (by simp only [nthOp, Act.put, List.setIfInBounds_toArray, List.set_cons_succ, List.set_cons_zero]; rfl) ?_
    · (intro w'; simp only [nthOp]; go_simp <;> first | done | (rw [IntKind.wrap_i64]; omega) | (rw [IntKind.wrap_u8]; omega) | skip)
    refine tr_plain (.int .u8 c.toNat) rfl ?_ (by simp only [nthOp, Act.put, List.setIfInBounds_toArray, List.set_cons_succ, List.set_cons_zero]; rfl) ?_
    · (intro w'; simp only [nthOp]; go_simp <;> first | done | (rw [IntKind.wrap_i64]; omega) | (rw [IntKind.wrap_u8]; omega) | skip)
    refine tr_two ?_ ?_
    · skip
      simp only [nthOp]
      go_wp2_with fail
      refine (hIH2.out _ _ hd).mono ?_
      rintro e w5 ⟨rfl, hd5⟩
      go_wp2_with fail
      simp only [Reg.Next]
      first | refine ⟨fun _ => trivial, ?_⟩ | skip
      clear hd
      refine tr_one ?_
      have hA := hd5.alloc (.cells #[.int .u8 c.toNat] 5 (0, 0))
      have hB := St.mkRow (size := 1) (n := 1) (cap := 1) (xs := bytesV [c]) hA (Nat.le_refl _) (by unfold maxLen; omega) rfl rfl
      obtain ⟨fb, hfb⟩ : ∃ z, w5.heap.size = z := ⟨_, rfl⟩
      rw [hfb] at hB
      clear hd5 hA
      simp only [nthOp]
      go_wp2_with fail
      simp only [Reg.Next]
      first | refine ⟨fun _ => trivial, ?_⟩ | skip
      clear hfb
      generalize w5.alloc (.cells #[.int .u8 c.toNat] 5 (0, 0)) = w6 at *
      refine tr_one ?_
      have hcv := run_string_of (P := Tryz.prog) hB.rowSl 67 9 5 Tryz.underlying67 Tryz.underlying5 Tryz.underlying9
      simp only [nthOp]
      go_wp2_with fail
      simp only [Reg.Next]
      first | refine ⟨fun _ => trivial, ?_⟩ | skip
      clear hcv
      refine tr_plain (.string ⟨D.toArray⟩) rfl ?_ (by simp only [nthOp, Act.put, List.setIfInBounds_toArray, List.set_cons_succ, List.set_cons_zero]; rfl) ?_
      · (intro w'; simp only [nthOp]; have := HADD.out w'; go_simp)
      refine tr_plain (.string ⟨D.toArray⟩) rfl ?_ (by simp only [nthOp, Act.put, List.setIfInBounds_toArray, List.set_cons_succ, List.set_cons_zero]; rfl) ?_
      · exact fun _ => rfl
      refine tr_done ?_
      have HF := Lib.hid hB.right
      clear hB
      go_wp2
      go_ret
      exact ⟨rfl, HF.out⟩
    · skip
      have hA := hd.alloc (.cells #[.int .u8 c.toNat] 5 (0, 0))
      have hB := St.mkRow (size := 1) (n := 1) (cap := 1) (xs := bytesV [c]) hA (Nat.le_refl _) (by unfold maxLen; omega) rfl rfl
      obtain ⟨fb, hfb⟩ : ∃ z, w4.heap.size = z := ⟨_, rfl⟩
      rw [hfb] at hB
      clear hd hA
      simp only [nthOp]
      go_wp2_with fail
      simp only [Reg.Next]
      first | refine ⟨fun _ => trivial, ?_⟩ | skip
      clear hfb
      generalize w4.alloc (.cells #[.int .u8 c.toNat] 5 (0, 0)) = w6 at *
      refine tr_two ?_ ?_
      · skip
        simp only [nthOp]
        go_wp2_with fail
        refine (hIH2.out _ _ hB).mono ?_
        rintro e w5 ⟨rfl, hd5⟩
        go_wp2_with fail
        simp only [Reg.Next]
        first | refine ⟨fun _ => trivial, ?_⟩ | skip
        clear hB
        refine tr_one ?_
        have hcv := run_string_of (P := Tryz.prog) hd5.rowSl 67 9 5 Tryz.underlying67 Tryz.underlying5 Tryz.underlying9
        simp only [nthOp]
        go_wp2_with fail
        simp only [Reg.Next]
        first | refine ⟨fun _ => trivial, ?_⟩ | skip
        clear hcv
        refine tr_plain (.string ⟨D.toArray⟩) rfl ?_ (by simp only [nthOp, Act.put, List.setIfInBounds_toArray, List.set_cons_succ, List.set_cons_zero]; rfl) ?_
        · (intro w'; simp only [nthOp]; have := HADD.out w'; go_simp)
        refine tr_plain (.string ⟨D.toArray⟩) rfl ?_ (by simp only [nthOp, Act.put, List.setIfInBounds_toArray, List.set_cons_succ, List.set_cons_zero]; rfl) ?_
        · exact fun _ => rfl
        refine tr_done ?_
        have HF := Lib.hid hd5.right
        clear hd5
        go_wp2
        go_ret
        exact ⟨rfl, HF.out⟩
      · skip
        have hcv := run_string_of (P := Tryz.prog) hB.rowSl 67 9 5 Tryz.underlying67 Tryz.underlying5 Tryz.underlying9
        simp only [nthOp]
        go_wp2_with fail
        simp only [Reg.Next]
        first | refine ⟨fun _ => trivial, ?_⟩ | skip
        clear hcv
        refine tr_one ?_
        simp only [nthOp]
        go_wp2_with fail
        refine (hIH2.out _ _ hB).mono ?_
        rintro e w5 ⟨rfl, hd5⟩
        go_wp2_with fail
        simp only [Reg.Next]
        first | refine ⟨fun _ => trivial, ?_⟩ | skip
        clear hB
        refine tr_plain (.string ⟨D.toArray⟩) rfl ?_ (by simp only [nthOp, Act.put, List.setIfInBounds_toArray, List.set_cons_succ, List.set_cons_zero]; rfl) ?_
        · (intro w'; simp only [nthOp]; have := HADD.out w'; go_simp)
        refine tr_plain (.string ⟨D.toArray⟩) rfl ?_ (by simp only [nthOp, Act.put, List.setIfInBounds_toArray, List.set_cons_succ, List.set_cons_zero]; rfl) ?_
        · exact fun _ => rfl
        refine tr_done ?_
        have HF := Lib.hid hd5.right
        clear hd5
        go_wp2
        go_ret
        exact ⟨rfl, HF.out⟩
end Go.Proofs.YtcjlbimmplejjaaGreatDoor.ScNu
