import Derived.Test.YtnfnplbojdmfmaaDoorPathJ
import Derived.Test.YtnfnplbojdmfmaaDoorPathR
namespace Go.Proofs.YtnfnplbojdmfmaaDoor.PathRj
open Go Go.RowKit Go.Proofs Go.Proofs.YtnfnplbojdmfmaaDoor.Sep Go.Proofs.YtnfnplbojdmfmaaDoor.Reg Go.Proofs.YtnfnplbojdmfmaaDoor.Frame Go.Proofs.YtnfnplbojdmfmaaDoor.PathP Go.Proofs.YtnfnplbojdmfmaaDoor.PathQ Go.Proofs.YtnfnplbojdmfmaaDoor.PathW Go.Proofs.YtnfnplbojdmfmaaDoor.PathL Go.Proofs.YtnfnplbojdmfmaaDoor.PathM Go.Proofs.YtnfnplbojdmfmaaDoor.PathT Go.Proofs.YtnfnplbojdmfmaaDoor.PathS Go.Proofs.YtnfnplbojdmfmaaDoor.PathSp Go.Proofs.YtnfnplbojdmfmaaDoor.PathJ Go.Proofs.YtnfnplbojdmfmaaDoor.PathR

/-- The letters that the plain Join keeps. -/
def keptS : List UInt8 := [97, 98, 99, 100, 101, 102, 103, 104, 105, 106, 107, 108, 109, 110, 111, 112, 113, 114, 115, 116, 117, 118, 119, 120, 121, 122, 65, 66, 67, 68, 69, 70, 71] ++ [72, 73, 74, 75, 76, 77, 78, 79, 80, 81, 82, 83, 84, 85, 86, 87, 88, 89, 90, 48, 49, 50, 51, 52, 53, 54, 55, 56, 57, 45, 46, 95, 126]
theorem keptS_eq (c : UInt8) : keptS.contains c = keptC c := by
  have h : ∀ n : Fin 256, keptS.contains (UInt8.ofNat n.val) = keptC (UInt8.ofNat n.val) := by decide +kernel
  have := h ⟨c.toNat, c.toNat_lt⟩
  simpa using this
theorem kept_take (j : Nat) (y c : UInt8) (b : Bool) (h : keptS[j]? = some y) (hb : (keptS.take j).contains c = b) : (keptS.take (j + 1)).contains c = (b || c == y) := by
  have e : (c == y) = decide (c = y) := by by_cases h : c = y <;> simp [h]
  rw [List.take_add_one, h, ← hb, e]
  simp
theorem u8_ofNat (c : UInt8) : UInt8.ofNat c.toNat = c := by simp
theorem join_none_of {l : List (List UInt8)} {k i : Nat} {x cur : List UInt8} (hx : l[k]? = some x) (hc : cur = joinL (l.take k) ++ 47 :: encS (x.take i)) (h : 512 < cur.length) : join l = none := by
  unfold join
  rw [if_neg]
  rintro ⟨_, _, h4⟩
  have h1 := joinL_prefix l (k + 1)
  rw [joinL_take l k x hx] at h1
  have h2 := encS_prefix x i
  have h3 := congrArg List.length hc
  simp only [List.length_append, List.length_cons] at h1 h3
  omega
theorem join_none_may {l : List (List UInt8)} {k : Nat} {x : List UInt8} (hx : l[k]? = some x) (hm : may x = false) : join l = none := by
  unfold join
  rw [if_neg]
  rintro ⟨_, h, _⟩
  have := List.all_eq_true.1 h x (List.mem_of_getElem? hx)
  rw [hm] at this; cases this

theorem run_str_lh8 {P : Program} (t : TypeId) (ht : P.underlying t = some .string) (l : List UInt8) (x y : Int) (i j : Nat) (hx : x = i) (hy : y = j) (h1 : i ≤ j) (h : j ≤ l.length) (w : World) :
    (Instr.slice t (.string ⟨l.toArray⟩) (some (.int .u8 x)) (some (.int .u8 y)) none).run P w = .ok (.string ⟨((l.drop i).take (j - i)).toArray⟩) w := by
  subst hx; subst hy
  have hz : (⟨l.toArray⟩ : ByteArray).size = l.length := by simp [ByteArray.size]
  simp [Instr.slice, run_underlying ht, Instr.sliceBounds, run_sliceBound, h, h1, hz, str_extract]
theorem hex_one : ∀ n : Fin 16, (hexT.drop n.val).take 1 = [hexU n.val] := by decide
theorem run_hex1 {P : Program} (t : TypeId) (ht : P.underlying t = some .string) (h : Nat) (hh : h < 16) (w : World) :
    (Instr.slice t (.string ⟨#[48, 49, 50, 51, 52, 53, 54, 55, 56, 57, 65, 66, 67, 68, 69, 70]⟩) (some (.int .u8 (h : Int))) (some (.int .u8 ((h : Int) + 1))) none).run P w = .ok (.string ⟨#[hexU h]⟩) w := by
  have h1 := run_str_lh8 (P := P) t ht hexT (h : Int) ((h : Int) + 1) h (h + 1) rfl (by omega) (by omega) (by show h + 1 ≤ 16; omega) w
  rw [show h + 1 - h = 1 from by omega, hex_one ⟨h, hh⟩] at h1
  exact h1

set_option maxRecDepth 100000 in
set_option maxHeartbeats 4000000 in
theorem rJoin_any (l : List (List UInt8)) (w : World) (a : Option Addr) (n c : Nat) (hn : l.length = n) (hnb : n ≤ 1000000) (hsl : Sl w 1 (.slice a n c) n (strsV l)) (hel : ∀ x ∈ l, x.length ≤ 1000000) :
    Calls Tryd.prog 14 #[.slice a n c] w (Makes w (joinV l)) := by
  have h0 := St.start w
  have HN := Lib.hid hn
  have HEL := Lib.hid hel
  have HSL := Lib.hid hsl
  clear hn hel hsl
  by_cases hn0 : n = 0
  · have HJ : Hid (joinV l = .tuple #[.string ⟨#[]⟩, .bool false]) := Lib.hid (joinV_none (by
      unfold join
      rw [if_neg]
      rintro ⟨h, _⟩
      exact h (List.eq_nil_of_length_eq_zero (by rw [HN.out]; exact hn0))))
    subst hn0
    go_enter Tryd.func14, Tryd.ntmps14
    go_wp2_with fail
    go_ret2
    exact ⟨congrArg Ending.returned HJ.out.symm, h0.below⟩
  have hn0I : ((n : Int) == 0) = false := by simp only [beq_eq_false_iff_ne, ne_eq]; omega
  go_enter Tryd.func14, Tryd.ntmps14
  go_wp2_with fail
  go_loopw [4, 5] (fun sv kv wr => ∃ (k : Nat) (cur : List UInt8), k ≤ n ∧ kv = .int .i64 k ∧ sv = .string ⟨cur.toArray⟩ ∧ cur.length ≤ 512 ∧ cur = joinL (l.take k) ∧ (l.take k).all may = true ∧ St w wr emp) (fun _ kv _ => n - (intOf kv).toNat)
  case atStart => exact ⟨0, [], by omega, rfl, rfl, by simp, rfl, rfl, h0⟩
  case round =>
    obtain ⟨k, cur, hk, rfl, rfl, hcl, hcu, hall, hS⟩ := hrel
    have HCU := Lib.hid hcu
    have HA := Lib.hid hall
    clear hcu hall h0
    by_cases hk2 : k < n
    · obtain ⟨x, hx⟩ : ∃ x, l[k]? = some x := ⟨_, List.getElem?_eq_getElem (by rw [HN.out]; exact hk2)⟩
      obtain ⟨ab, ao, rfl, hcl2⟩ := strs_at HSL.out hx
      have HC0 := Lib.hid hcl2
      have hc0 := hcl2 _ _ hS
      have hxl := HEL.out x (List.mem_of_getElem? hx)
      have HX := Lib.hid hx
      clear hcl2 hx
      have HM := Lib.hid fun w => rmay_any x w hxl
      cases hmy : may x
      · rw [hmy] at HM
        have HJ := Lib.hid (joinV_none (join_none_may HX.out hmy))
        clear hmy
        go_wp2_with fail
        refine (HM.out _).mono ?_
        rintro e w' ⟨rfl, rfl⟩
        go_wp2
        go_ret2
        exact ⟨congrArg Ending.returned HJ.out.symm, hS.below⟩
      · rw [hmy] at HM
        have HAl : Hid ((l.take (k + 1)).all may = true) := Lib.hid (by rw [List.take_add_one, HX.out, List.all_append, HA.out]; simp [hmy])
        clear hmy
        have hadd := run_str_add (P := Tryd.prog) cur [47] (by simp; omega)
        go_wp2_with fail
        refine (HM.out _).mono ?_
        rintro e w' ⟨rfl, rfl⟩
        go_wp2_with fail
        go_loopw [4, 6] (fun sv iv wr => ∃ (i : Nat) (cu : List UInt8), i ≤ x.length ∧ iv = .int .i64 i ∧ sv = .string ⟨cu.toArray⟩ ∧ cu.length ≤ 513 ∧ cu = joinL (l.take k) ++ 47 :: encS (x.take i) ∧ St w wr emp) (fun _ iv _ => x.length - (intOf iv).toNat)
        case atStart => exact ⟨0, cur ++ [47], by omega, rfl, rfl, by simp; omega, by rw [HCU.out]; rfl, hS⟩
        case round =>
          clear hS hc0 hadd
          obtain ⟨i, cu, hi, rfl, rfl, hcul, hcu, hS⟩ := hrel
          have HCV := Lib.hid hcu
          have hc0 := HC0.out _ _ hS
          clear hcu
          by_cases hi2 : i < x.length
          · have hsz : i < (ByteArray.mk x.toArray).size := by simpa [ByteArray.size] using hi2
            have hget := get_byte x i hsz
            generalize hch : (ByteArray.mk x.toArray)[i]'hsz = ch at *
            have HET := Lib.hid (encS_take x i ch hget)
            clear hget
            go_wp2_with fail
            go_loop [8, 9] (fun bv jv => ∃ (j : Nat) (b : Bool), j ≤ 66 ∧ jv = .int .i64 j ∧ bv = .bool b ∧ (keptS.take j).contains ch = b) (fun _ jv => 66 - (intOf jv).toNat)
            case atStart => exact ⟨0, false, by omega, rfl, rfl, rfl⟩
            case round =>
              obtain ⟨j, b, hj, rfl, rfl, hb⟩ := hrel
              have HB := Lib.hid hb
              clear hb
              by_cases hj2 : j < 66
              · have hszk : j < (ByteArray.mk keptS.toArray).size := by simpa [ByteArray.size, keptS] using hj2
                have hgk := get_byte keptS j hszk
                have hj3 : (j : Int) < 66 := by omega
                simp only [keptS, List.cons_append, List.nil_append] at hszk hgk
                generalize hcy : (ByteArray.mk _)[j]'hszk = y at *
                have HT := Lib.hid (kept_take j y ch b hgk HB.out)
                clear hgk
                cases b
                · by_cases hy : y = ch
                  · subst hy
                    have HT2 : Hid ((keptS.take (j + 1)).contains y = true) := Lib.hid (by rw [HT.out]; simp)
                    go_wp2_with fail
                    exact ⟨⟨j + 1, true, by omega, by go_num, rfl, HT2.out⟩, by simp [intOf]; omega⟩
                  · have hyI := byte_ne hy
                    have HT2 : Hid ((keptS.take (j + 1)).contains ch = false) := Lib.hid (by rw [HT.out]; simpa using fun e => hy e.symm)
                    clear hy
                    go_wp2_with fail
                    exact ⟨⟨j + 1, false, by omega, by go_num, rfl, HT2.out⟩, by simp [intOf]; omega⟩
                · have HT2 : Hid ((keptS.take (j + 1)).contains ch = true) := Lib.hid (by rw [HT.out]; rfl)
                  go_wp2_with fail
                  exact ⟨⟨j + 1, true, by omega, by go_num, rfl, HT2.out⟩, by simp [intOf]; omega⟩
              · obtain rfl : j = 66 := by omega
                have hkc : keptC ch = b := by rw [← keptS_eq]; exact HB.out
                cases b
                · have HEC : Hid (encC ch = [37, hexU (ch.toNat / 16), hexU (ch.toNat % 16)]) := Lib.hid (by unfold encC; rw [hkc]; rfl)
                  clear hkc
                  have hcb := ch.toNat_lt
                  obtain ⟨h4, hh4⟩ : ∃ h4 : Nat, ch.toNat / 16 = h4 := ⟨_, rfl⟩
                  obtain ⟨l4, hl4⟩ : ∃ l4 : Nat, ch.toNat % 16 = l4 := ⟨_, rfl⟩
                  have hd1 : h4 < 16 := by omega
                  have hd2 : l4 < 16 := by omega
                  have hshr : ((ch.toNat : Int) / 16) = (h4 : Int) := by omega
                  have hrem : ((ch.toNat : Int) % 16) = (l4 : Int) := by omega
                  have hrem2 : ((ch.toNat : Int).tmod 16) = (l4 : Int) := by rw [Int.tmod_eq_emod_of_nonneg (by omega)]; omega
                  have hquo2 : ((ch.toNat : Int).tdiv 16) = (h4 : Int) := by rw [Int.tdiv_eq_ediv_of_nonneg (by omega)]; omega
                  have hd1I : (h4 : Int) < 16 := by omega
                  have hd2I : (l4 : Int) < 16 := by omega
                  have hd1J : (h4 : Int) + 1 ≤ 16 := by omega
                  have hd2J : (l4 : Int) + 1 ≤ 16 := by omega
                  rw [hh4, hl4] at HEC
                  clear hh4 hl4
                  have hadd1 := run_str_add (P := Tryd.prog) cu [37] (by simp; omega)
                  have hadd2 := run_str_add (P := Tryd.prog) (cu ++ [37]) [hexU h4] (by simp; omega)
                  have hadd3 := run_str_add (P := Tryd.prog) (cu ++ [37, hexU h4]) [hexU l4] (by simp; omega)
                  have hsl1 := run_hex1 (P := Tryd.prog) 9 Tryd.underlying9 h4 hd1
                  have hsl2 := run_hex1 (P := Tryd.prog) 9 Tryd.underlying9 l4 hd2
                  have hS8 := hS
                  have HNX : Hid (cu ++ [37, hexU h4, hexU l4] = joinL (l.take k) ++ 47 :: encS (x.take (i + 1))) := Lib.hid (by rw [HET.out, HEC.out, HCV.out]; simp)
                  by_cases h5 : 512 < cu.length + 3
                  · have HJ := Lib.hid (joinV_none (join_none_of HX.out HNX.out (by simp; omega)))
                    go_wp2_with fail
                    go_quiet (fail)
                    go_wp2_with fail
                    go_ret2
                    exact ⟨congrArg Ending.returned HJ.out.symm, (hS.drewN nq).below⟩
                  · go_wp2_with fail
                    go_quiet (fail)
                    go_wp2_with fail
                    exact ⟨⟨i + 1, cu ++ [37, hexU h4, hexU l4], by omega, by go_num, by simp, by simp; omega, HNX.out, hS.drewN nq⟩, by simp [intOf]; omega⟩
                · have HEC : Hid (encC ch = [ch]) := Lib.hid (by unfold encC; rw [hkc]; rfl)
                  have hS8 := hS.alloc (.cells #[.int .u8 (ch.toNat : Int)] 5 (0, 0))
                  have hcv := run_string_one (P := Tryd.prog) 31 9 5 Tryd.underlying31 Tryd.underlying5 Tryd.underlying9 wr wr.heap.size rfl (ch.toNat : Int) ch.toNat rfl ch.toNat_lt (0, 0)
                  rw [u8_ofNat] at hcv
                  have hadd := run_str_add (P := Tryd.prog) cu [ch] (by simp; omega)
                  clear hkc
                  have HNX : Hid (cu ++ [ch] = joinL (l.take k) ++ 47 :: encS (x.take (i + 1))) := Lib.hid (by rw [HET.out, HEC.out, HCV.out]; simp)
                  by_cases h5 : 512 < cu.length + 1
                  · have HJ := Lib.hid (joinV_none (join_none_of HX.out HNX.out (by simp; omega)))
                    go_wp2_with fail
                    go_ret2
                    exact ⟨congrArg Ending.returned HJ.out.symm, hS8.right.below⟩
                  · go_wp2_with fail
                    exact ⟨⟨i + 1, cu ++ [ch], by omega, by go_num, rfl, by simp; omega, HNX.out, hS8.right⟩, by simp [intOf]; omega⟩
          · have hix : i = x.length := by omega
            have HFull : Hid (cu = joinL (l.take (k + 1))) := Lib.hid (by rw [joinL_take l k x HX.out, HCV.out, hix, List.take_length])
            by_cases h5 : 512 < cu.length
            · have HJ := Lib.hid (joinV_none (join_none_of HX.out HCV.out h5))
              clear hix
              go_wp2_with fail
              go_ret2
              exact ⟨congrArg Ending.returned HJ.out.symm, hS.below⟩
            · clear hix
              go_wp2_with fail
              exact ⟨⟨k + 1, cu, by omega, by go_num, rfl, by omega, HFull.out, HAl.out, hS⟩, by simp [intOf]; omega⟩
    · obtain rfl : k = n := by omega
      have htk : l.take k = l := List.take_of_length_le (by rw [HN.out]; omega)
      have HJ : Hid (joinV l = .tuple #[.string ⟨cur.toArray⟩, .bool true]) := Lib.hid (joinV_some (by
        have hcu := HCU.out
        rw [htk] at hcu
        unfold join
        rw [if_pos, hcu]
        refine ⟨?_, ?_, ?_⟩
        · intro hl; have := HN.out; rw [hl] at this; simp at this; omega
        · rw [← htk]; exact HA.out
        · rw [← hcu]; exact hcl))
      clear htk
      go_wp2_with fail
      go_ret2
      exact ⟨congrArg Ending.returned HJ.out.symm, hS.below⟩

end Go.Proofs.YtnfnplbojdmfmaaDoor.PathRj
