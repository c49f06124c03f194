import Derived.Test.YtlofiaaacepgmaaGreatDoorPathT
namespace Go.Proofs.YtlofiaaacepgmaaGreatDoor.PathS
open Go Go.RowKit Go.Proofs Go.Proofs.YtlofiaaacepgmaaGreatDoor.Sep Go.Proofs.YtlofiaaacepgmaaGreatDoor.Reg Go.Proofs.YtlofiaaacepgmaaGreatDoor.Frame Go.Proofs.YtlofiaaacepgmaaGreatDoor.PathP Go.Proofs.YtlofiaaacepgmaaGreatDoor.PathQ Go.Proofs.YtlofiaaacepgmaaGreatDoor.PathW Go.Proofs.YtlofiaaacepgmaaGreatDoor.PathL Go.Proofs.YtlofiaaacepgmaaGreatDoor.PathM Go.Proofs.YtlofiaaacepgmaaGreatDoor.PathT

theorem infoB : (Tryz.prog.info? 5).map (fun i => (i.zero, i.size, i.bytes)) = some (some (.int .u8 0), 1, 1) := by kernel_rfl

theorem bytes_ofNat (y : Nat) (h : y < 256) : bytesV [UInt8.ofNat y] = [Value.int .u8 (y : Int)] := by
  simp only [bytesV, List.map_cons, List.map_nil, List.cons.injEq, and_true]
  congr 1
  simp; omega
theorem hex_class (c : UInt8) (h : isHex c = true) : (48 ≤ c.toNat ∧ c.toNat ≤ 57) ∨ (65 ≤ c.toNat ∧ c.toNat ≤ 70) ∨ (97 ≤ c.toNat ∧ c.toNat ≤ 102) := by
  have : ∀ c ∈ hexs, (48 ≤ c.toNat ∧ c.toNat ≤ 57) ∨ (65 ≤ c.toNat ∧ c.toNat ≤ 70) ∨ (97 ≤ c.toNat ∧ c.toNat ≤ 102) := by decide
  exact this c (by simpa [isHex] using h)
theorem digit_any (c : UInt8) (w : World) (h : isHex c = true) : Calls Tryz.prog 51 #[.int .u8 c.toNat] w (Same w (.int .u8 (hexv c : Nat))) := by
  have hc := hex_class c h
  clear h
  rcases hc with ⟨h1, h2⟩ | ⟨h1, h2⟩ | ⟨h1, h2⟩
  · have e : hexv c = c.toNat - 48 := by unfold hexv; rw [if_pos (by omega)]
    go_enter Tryz.func51, Tryz.ntmps51
    go_wp2
    go_ret
    exact ⟨congrArg _ (int_eq (by omega)), rfl⟩
  · have e : hexv c = c.toNat - 55 := by unfold hexv; rw [if_neg (by omega), if_pos (by omega)]
    go_enter Tryz.func51, Tryz.ntmps51
    go_wp2
    go_ret
    exact ⟨congrArg _ (int_eq (by omega)), rfl⟩
  · have e : hexv c = c.toNat - 87 := by unfold hexv; rw [if_neg (by omega), if_neg (by omega)]
    go_enter Tryz.func51, Tryz.ntmps51
    go_wp2
    go_ret
    exact ⟨congrArg _ (int_eq (by omega)), rfl⟩

set_option maxRecDepth 100000 in
set_option maxHeartbeats 4000000 in
theorem pplain_any (s : List UInt8) (w : World) (hs : s.length ≤ 1000000) (hw : wfp s = true) : Calls Tryz.prog 29 #[.string ⟨s.toArray⟩] w (Makes w (.string ⟨(unpct s).toArray⟩)) := by
  obtain ⟨i5, hi5, hy0, hy1, hy2⟩ := info_parts infoB
  have h0 : St w w (star (Row 5 1 (.slice none 0 0) 0 (bytesV [])) emp) := (St.start w).nilRow
  have HW := Lib.hid hw
  clear hw
  go_enter Tryz.func29, Tryz.ntmps29
  go_wp2_with fail
  go_loopw [3, 4] (fun bv iv wr => ∃ (i m : Nat) (a : Option Addr) (c : Nat) (o : List UInt8), i ≤ s.length ∧ iv = .int .i64 i ∧ m ≤ i ∧ m = o.length ∧ bv = .slice a m c ∧ o ++ unpct (s.drop i) = unpct s ∧ wfp (s.drop i) = true ∧
    St w wr (star (Row 5 1 (.slice a m c) m (bytesV o)) emp)) (fun _ iv _ => s.length - (intOf iv).toNat)
  case atStart => exact ⟨0, 0, none, 0, [], by omega, rfl, by omega, rfl, rfl, rfl, HW.out, h0⟩
  case round =>
    obtain ⟨i, m, a, c, o, hi, rfl, hmi, hmo, rfl, ho, hwf, hS⟩ := hrel
    have HMO := Lib.hid hmo
    have HO := Lib.hid ho
    have HWF := Lib.hid hwf
    clear hmo ho hwf h0
    by_cases hi2 : i < s.length
    · have hsz : i < (ByteArray.mk s.toArray).size := by simpa [ByteArray.size] using hi2
      have HD := Lib.hid (drop_byte s i hsz)
      generalize hc : (ByteArray.mk s.toArray)[i]'hsz = x at *
      by_cases h37 : x = 37
      · subst h37
        obtain ⟨a1, b1, q, hq, ha, hb, hqw⟩ := wfp_pct (s.drop (i + 1)) (by rw [← HD.out]; exact HWF.out)
        have hlen : i + 3 ≤ s.length := by have := congrArg List.length hq; simp at this; omega
        have hsa : i + 1 < (ByteArray.mk s.toArray).size := by simp [ByteArray.size]; omega
        have hsb : i + 2 < (ByteArray.mk s.toArray).size := by simp [ByteArray.size]; omega
        have hda := drop_byte s (i + 1) hsa
        have hdb := drop_byte s (i + 2) hsb
        generalize hca : (ByteArray.mk s.toArray)[i + 1]'hsa = a' at *
        generalize hcb : (ByteArray.mk s.toArray)[i + 2]'hsb = b' at *
        rw [hda, hdb] at hq
        simp only [List.cons.injEq] at hq
        obtain ⟨rfl, rfl, hq⟩ := hq
        have HA := Lib.hid fun w => digit_any a' w ha
        have HB := Lib.hid fun w => digit_any b' w hb
        have hva := hexv_lt a' ha
        have hvb := hexv_lt b' hb
        have hor : bits .or .u8 ((hexv a' : Int) * 16) (hexv b' : Int) = ((hexv a' * 16 + hexv b' : Nat) : Int) := by
          rw [bits_join .u8 8 (by decide) wraps_u8 4 _ _ (by omega) (by omega) (by omega) (by omega) (by omega) (by omega)]; omega
        have HOn : Hid (o ++ [UInt8.ofNat (hexv a' * 16 + hexv b')] ++ unpct (s.drop (i + 3)) = unpct s) := Lib.hid (by
          rw [← HO.out, HD.out, hda, hdb, unpct_pct]; simp)
        have HWn : Hid (wfp (s.drop (i + 3)) = true) := Lib.hid (by rw [hq]; exact hqw)
        clear hda hdb hq hqw HA HB
        go_wp2_with fail
        have hx2 : (i : Int) + 2 < (s.length : Int) := by omega
        have hx3 : (0 : Int) ≤ (i : Int) + 2 := by omega
        refine wp_region_quiet_lit (by kernel_rfl) (by kernel_rfl) ?_
        repeat (go_big_quiet_step ((go_at_call 51; exact Calls.quiet_of_same (digit_any _ _ (by assumption)))))
        refine wpQuiet_nil ?_
        rintro _ ⟨nq, rfl⟩
        have hS2 := hS.drewN nq
        go_wp2_with (at_builtin; refine wpList_append1 rfl (.tmp 31) (.tmp 33) 49 rfl 5 i5 _ 1 1 Tryz.underlying49 hi5 hy0 hy1 hy2 rfl _ m _ rfl hS2 _ rfl rfl (by intro u hu; simp at hu; subst hu; rfl) (by unfold maxLen; omega) (by omega) ?_)
        intro a5 c5 w5 hS5
        go_wp2
        refine ⟨⟨i + 3, m + 1, _, _, o ++ [UInt8.ofNat (hexv a' * 16 + hexv b')], by omega, int_eq (by omega), by omega, by simp [HMO.out], rfl, HOn.out, HWn.out, ?_⟩, by simp [intOf]; omega⟩
        rw [bytesV_append, bytes_ofNat _ (by omega)]
        have e : ((hexv a' * 16 + hexv b' : Nat) : Int) = (hexv a' : Int) * 16 + (hexv b' : Int) := by omega
        rw [e]
        exact hS5
      · have h37I : ((x.toNat : Int) == 37) = false := by
          simp only [beq_eq_false_iff_ne, ne_eq]; intro h; exact h37 (UInt8.toNat_inj.1 (by show _ = 37; omega))
        have HOn : Hid (o ++ [x] ++ unpct (s.drop (i + 1)) = unpct s) := Lib.hid (by rw [← HO.out, HD.out, unpct_cons _ _ h37]; simp)
        have HWn : Hid (wfp (s.drop (i + 1)) = true) := Lib.hid (by rw [← wfp_cons x _ h37, ← HD.out]; exact HWF.out)
        clear h37
        go_wp2_with (at_builtin; refine wpList_append1 rfl (.tmp 31) (.tmp 33) 49 rfl 5 i5 _ 1 1 Tryz.underlying49 hi5 hy0 hy1 hy2 rfl _ m _ rfl hS _ rfl rfl (by intro u hu; simp at hu; subst hu; rfl) (by unfold maxLen; omega) (by omega) ?_)
        intro a5 c5 w5 hS5
        go_wp2
        refine ⟨⟨i + 1, m + 1, _, _, o ++ [x], by omega, by go_num, by omega, by simp [HMO.out], rfl, HOn.out, HWn.out, ?_⟩, by simp [intOf]; omega⟩
        rw [bytesV_append]
        exact hS5
    · obtain rfl : i = s.length := by omega
      have hoo : o = unpct s := by
        have := HO.out
        rw [List.drop_length] at this
        simpa [unpct] using this
      have hcv := run_string_of (P := Tryz.prog) hS.rowSl 49 9 5 Tryz.underlying49 Tryz.underlying5 Tryz.underlying9
      rw [hoo] at hcv
      go_wp2
      go_ret
      exact ⟨rfl, hS.below⟩

theorem ret_bool {a b : Bool} (h : a = b) : Ending.returned (.bool a) = .returned (.bool b) := by rw [h]
theorem kept_class (c : UInt8) : (keptC c = true ∧ alnum c = true) ∨ (alnum c = false ∧ keptC c = [45, 46, 95, 126].contains c) := by
  unfold keptC
  cases alnum c <;> simp
end Go.Proofs.YtlofiaaacepgmaaGreatDoor.PathS
