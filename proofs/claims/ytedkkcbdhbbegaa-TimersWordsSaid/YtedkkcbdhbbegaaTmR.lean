import Derived.Test.YtedkkcbdhbbegaaTmK3
import Derived.Test.YtedkkcbdhbbegaaSure
import Derived.BigQuiet
namespace Go.Proofs.Ytedkkcbdhbbegaa.TmR
open Go Go.RowKit Go.Proofs Go.Proofs.Ytedkkcbdhbbegaa.Sep Go.Proofs.Ytedkkcbdhbbegaa.Reg Go.Proofs.Ytedkkcbdhbbegaa.Frame Go.Proofs.Ytedkkcbdhbbegaa.Slc Go.Proofs.Ytedkkcbdhbbegaa.TmP Go.Proofs.Ytedkkcbdhbbegaa.TmQ Go.Proofs.Ytedkkcbdhbbegaa.TmI Go.Proofs.Ytedkkcbdhbbegaa.TmI2 Go.Proofs.Ytedkkcbdhbbegaa.TmI3 Go.Proofs.Ytedkkcbdhbbegaa.TmI4 Go.Proofs.Ytedkkcbdhbbegaa.TmI5 Go.Proofs.Ytedkkcbdhbbegaa.TmK Go.Proofs.Ytedkkcbdhbbegaa.TmK3 Go.Proofs.Ytedkkcbdhbbegaa.Sure

set_option maxRecDepth 100000 in
set_option maxHeartbeats 4000000 in
theorem rAt_any (a : Option Addr) (n c : Nat) (l : List (κ × Int)) (hn : l.length = n) (hn1 : n ≤ 1000000) (k : Int) (q : Int) (hq : atV k l = q) (w : World) (hsl : Sl w 2 (.slice a n c) n (tsV l)) :
    Calls Try.prog 10 #[.slice a n c, .int .i64 k] w (Makes w (.int .i64 q)) := by
  have h0 := St.start w
  have HSL := Lib.hid hsl
  have HL := Lib.hid hn
  have HQ := Lib.hid hq
  clear hsl hn hq
  go_enter Try.func10, Try.ntmps10
  go_wp2_with fail
  go_loopw [5] (fun iv wr => ∃ i : Nat, i ≤ n ∧ iv = .int .i64 i ∧ (∀ y ∈ l.take i, y.1 ≠ k) ∧ St w wr emp) (fun iv _ => n - (intOf iv).toNat)
  case atStart => exact ⟨0, Nat.zero_le _, rfl, by simp, h0⟩
  case round =>
    obtain ⟨i, hi, rfl, htk, hS⟩ := hrel
    have HT := Lib.hid htk
    clear htk
    by_cases hin : i < n
    · obtain ⟨x, hx⟩ : ∃ x, l[i]? = some x := ⟨_, List.getElem?_eq_getElem (by rw [HL.out]; exact hin)⟩
      obtain ⟨ab, ao, rfl, hel⟩ := el_at HSL.out hx
      obtain ⟨x1, x2⟩ := x
      obtain ⟨he0, he1⟩ := hel _ _ hS
      have HX := Lib.hid hx
      clear hel hx he1
      by_cases hk : x1 = k
      · subst hk
        have HV := Lib.hid (atV_some HX.out rfl HT.out).1
        go_wp2
        go_ret
        exact ⟨by rw [← HQ.out, HV.out]; rfl, hS.below⟩
      · have hkb : (x1 == k) = false := by simpa using hk
        have HK := Lib.hid hk
        clear hk
        go_wp2_with fail
        exact ⟨⟨i + 1, by omega, by go_num, by
          rw [List.take_add_one, HX.out]
          intro y hy
          rcases List.mem_append.1 hy with h | h
          · exact HT.out y h
          · simp at h; subst h; exact HK.out, hS⟩, by simp [intOf]; omega⟩
    · obtain rfl : i = n := by omega
      have HV : Hid (atV k l = -1) := Lib.hid (atV_none (by
        have := HT.out
        rw [List.take_of_length_le (by rw [HL.out]; omega)] at this
        exact this)).1
      go_wp2
      go_ret
      exact ⟨by rw [← HQ.out, HV.out]; rfl, hS.below⟩
theorem infoR : (Try.prog.info? 33).map (fun i => (i.zero, i.size, i.bytes)) = some (some zV, 2, 16) := by kernel_rfl
theorem infoR2 : (Try.prog.info? 33).map (·.size) = some 2 := by kernel_rfl
set_option maxRecDepth 100000 in
set_option maxHeartbeats 8000000 in
theorem rDrop_any (v : Value) (l : List (κ × Int)) (n : Nat) (hn : l.length = n) (hn1 : n ≤ 1000000) (i : Nat) (hi : i < n) {W w : World} {R : Asn} (h : St W w (star (Row 33 2 v n (tsV l)) R)) :
    Calls Try.prog 12 #[v, .int .i64 i] w fun e w' => ∃ v', e = .returned v' ∧ St W w' (star (Row 33 2 v' (n - 1) (tsV (l.take i ++ l.drop (i + 1)))) (star (Row 33 2 v n (tsV l)) R)) := by
  obtain ⟨i0, hi0, hz0, hz1, hz2⟩ := info_parts infoR
  obtain ⟨hxl, hv⟩ := h.row
  rcases hv with ⟨rfl, h0, _⟩ | ⟨g, cap, cur, rfl, hnc, hcm, hcs, htk, hg⟩
  · omega
  have hcm2 : cap ≤ 9223372036854775807 := by simpa [maxLen] using hcm
  have U := Try.underlying26
  have hs1 := run_head (P := Try.prog) 26 33 2 U infoR2 g n cap i (by omega) (i : Int) rfl
  have hs2 := run_cut_l' (P := Try.prog) 26 33 2 U infoR2 (some ⟨g, 0, none⟩) n cap ((i : Int) + 1) (i + 1) (by omega) (by omega)
  obtain ⟨ua, uc, hu⟩ : ∃ ua uc, cutV (some ⟨g, 0, none⟩) cap (i + 1) n 2 = .slice ua (n - (i + 1)) uc := ⟨_, _, rfl⟩
  rw [hu] at hs2
  have h1 := ((h.alloc (.cells #[] 33))).drew
  have h2 := St.mkRow (size := 2) (n := 0) (cap := 0) (xs := []) h1 (Nat.le_refl _) (Nat.zero_le _) rfl rfl
  have hti : cur.toList.take (i * 2) = tsV (l.take i) := by
    have : cur.toList.take (i * 2) = (cur.toList.take (n * 2)).take (i * 2) := by rw [List.take_take]; congr 1; omega
    rw [this, htk, tsV_take]
  have hA : Sl (w.alloc (.cells #[] 33)).drew 2 (.slice (some ⟨g, 0, none⟩) i cap) i (tsV (l.take i)) := (St.mkRow (size := 2) (n := i) (cap := cap) (xs := tsV (l.take i)) ((hg.alloc (.cells #[] 33)).drew.right) (by omega) hcm hcs hti).rowSl
  have hcl : (tsV (l.drop (i + 1))).length = (n - (i + 1)) * 2 := by rw [tsV_length]; simp; omega
  have hnews : ((tsV l).drop ((i + 1) * 2)).take ((n - (i + 1)) * 2) = tsV (l.drop (i + 1)) := by
    rw [tsV_drop, List.take_of_length_le (by rw [hcl]; omega)]
  have HC : Hid (∀ w' A, St W w' (star A (star (Row 33 2 (.slice (some ⟨g, 0, none⟩) n cap) n (tsV l)) R)) → Sl w' 2 (.slice ua (n - (i + 1)) uc) (n - (i + 1)) (tsV (l.drop (i + 1)))) := Lib.hid (fun w' A hq => by
    have := hq.right.rowSl.cut (i + 1) n (by omega) (Nat.le_refl _)
    rw [hu, hnews] at this
    exact this)
  have HX : Hid (tsV (l.take i) ++ tsV (l.drop (i + 1)) = tsV (l.take i ++ l.drop (i + 1))) := Lib.hid (by rw [tsV_append])
  have HN : Hid (i + (n - (i + 1)) = n - 1) := Lib.hid (by omega)
  have HI : Hid ((i : Int) + 1 = IntKind.i64.wrap ((i : Int) + 1)) := Lib.hid (by rw [IntKind.wrap_i64]; omega)
  clear hu hti hcl hnews hxl htk hcs hg h
  go_enter Try.func12, Try.ntmps12
  go_wp2_with fail
  refine wp_region_sure [6, 7] [(false, [1, 2, 3, 5, 8, 0, 4, 9, 10])] (by kernel_rfl) (by kernel_rfl) ?_
  simp only [wpSure, wpSegs, pickOps, nthOp]
  refine ⟨trivial, .int .i64 i, fun w => rfl, trivial, .int .i64 ((i : Int) + 1), fun w => ?_, ?_⟩
  · rw [HI.out]; rfl
  go_wp2_with (at_builtin; first | (refine wpList_append_Sl rfl (.tmp 9) (.tmp 13) 26 rfl 33 i0 zV 2 16 U hi0 hz0 hz1 hz2 rfl _ i (tsV (l.take i)) rfl hS9 _ (n - (i + 1)) (tsV (l.drop (i + 1))) rfl hC9 (tsV_one _) (by unfold maxLen; omega) (by omega) ?_; intro v8 w8 hS8 hv8; rw [HN.out, HX.out] at hS8; obtain ⟨_, a8, c8, rfl, _⟩ := id hS8.rowSl) | (refine wpList_append_Sl rfl (.tmp 5) (.tmp 8) 26 rfl 33 i0 zV 2 16 U hi0 hz0 hz1 hz2 rfl _ 0 [] rfl h2 _ i (tsV (l.take i)) rfl hA (tsV_one _) (by unfold maxLen; omega) (by omega) ?_; intro v9 w9 hS9 hv9; rw [Nat.zero_add, List.nil_append] at hS9; obtain ⟨_, a9, c9, rfl, _⟩ := id hS9.rowSl; have hC9 := HC.out _ _ hS9))
  simp only [Reg.Next]
  go_wp2
  go_ret
  exact ⟨_, rfl, hS8⟩
end Go.Proofs.Ytedkkcbdhbbegaa.TmR
