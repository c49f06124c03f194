import Derived.Test.YtjobidgihjfheaaDoorTrW
import Derived.Test.YtjobidgihjfheaaDoorTrR
namespace Go.Proofs.YtjobidgihjfheaaDoor.TrF
open Go Go.RowKit Go.Proofs Go.Proofs.YtjobidgihjfheaaDoor.Sep Go.Proofs.YtjobidgihjfheaaDoor.Reg Go.Proofs.YtjobidgihjfheaaDoor.Frame Go.Proofs.YtjobidgihjfheaaDoor.Strs Go.Proofs.YtjobidgihjfheaaDoor.PathP Go.Proofs.YtjobidgihjfheaaDoor.Mp Go.Proofs.YtjobidgihjfheaaDoor.TrP Go.Proofs.YtjobidgihjfheaaDoor.TrM Go.Proofs.YtjobidgihjfheaaDoor.TrC Go.Proofs.YtjobidgihjfheaaDoor.TrQ Go.Proofs.YtjobidgihjfheaaDoor.TrD Go.Proofs.YtjobidgihjfheaaDoor.TrS Go.Proofs.YtjobidgihjfheaaDoor.TrT Go.Proofs.YtjobidgihjfheaaDoor.TrW Go.Proofs.YtjobidgihjfheaaDoor.TrR

/-- A trie's entries are few, and short. -/
def Few (es : EntsV) (i : Nat) : Prop := es.length ≤ i ∧ ∀ e ∈ es, e.2.1.length ≤ 200
theorem Few.add {es : EntsV} {i : Nat} (h : Few es i) (max : Int) (p : Tx) (hp : p.length ≤ 200) (x : Value) : Few (addT es max p x).2 (i + 1) := by
  unfold addT
  split
  · exact ⟨Nat.le_succ_of_le h.1, h.2⟩
  · split
    · exact ⟨Nat.le_succ_of_le h.1, h.2⟩
    · split
      · exact ⟨Nat.le_succ_of_le h.1, h.2⟩
      · refine ⟨by have := h.1; simp; omega, fun e he => ?_⟩
        rcases List.mem_append.1 he with he | he
        · exact h.2 e he
        · simp at he; subst he; exact hp
theorem Few.nil (i : Nat) : Few [] i := ⟨Nat.zero_le _, by simp⟩
theorem Few.long {es : EntsV} {i : Nat} (h : Few es i) : ∀ e ∈ es, e.2.1.length ≤ 1000000 := fun e he => Nat.le_trans (h.2 e he) (by decide)
set_option maxRecDepth 100000 in
set_option maxHeartbeats 32000000 in
theorem fills_any {W : World} (hm : MaxLen W) (pa : Option Addr) (n pc : Nat) (l : List Tx) (hln : l.length = n) (hsl : Sl W 1 (.slice pa n pc) n (strsV l)) (hlm : ∀ x ∈ l, x.length ≤ maxLen)
    (qa : Option Addr) (m qc : Nat) (path : List Tx) (hlp : path.length = m) (hsp : Sl W 1 (.slice qa m qc) m (strsV path)) (hpm : ∀ x ∈ path, x.length ≤ maxLen) :
    Calls Tryd.prog 3 #[.slice pa n pc, .slice qa m qc] W (Law W emp) := by
  have h0 := St.start W
  have HM := Lib.hid hm
  have HWk := Lib.hid (wakes_any hm h0)
  have HWk2 : Hid (∀ w, St W w emp → _) := Lib.hid fun w h => wakes_any hm h
  have HLN := Lib.hid hln
  have HSL := Lib.hid hsl
  have HLM := Lib.hid hlm
  have HLP := Lib.hid hlp
  have HSP := Lib.hid hsp
  have hcap : n ≤ pc ∧ pc ≤ 9223372036854775807 := by obtain ⟨_, _, _, hv, h1, h2, _⟩ := hsl; cases hv; exact ⟨h1, by simpa [maxLen] using h2⟩
  have hcap2 : m ≤ qc ∧ qc ≤ 9223372036854775807 := by obtain ⟨_, _, _, hv, h1, h2, _⟩ := hsp; cases hv; exact ⟨h1, by simpa [maxLen] using h2⟩
  have HGr := Lib.hid (Great_any hsp hlp hpm)
  clear hm hln hsl hlm hlp hsp hpm
  by_cases h30 : 30 < n
  · have hd : decide (30 < (n : Int)) = true := decide_eq_true (by omega)
    clear h30
    go_enter Tryd.func3, Tryd.ntmps3
    go_wp2_with fail
    refine HWk.out.mono ?_
    rintro e w1 ⟨rfl, h1⟩
    go_wp2
    go_ret
    exact ⟨rfl, h1⟩
  · have hd : decide (30 < (n : Int)) = false := decide_eq_false (by omega)
    cases hg : greatP path with
    | true =>
      rw [hg] at HGr
      clear hg h30
      go_enter Tryd.func3, Tryd.ntmps3
      go_wp2_with fail
      refine HGr.out.mono ?_
      rintro e w1 ⟨rfl, rfl⟩
      go_wp2_with fail
      refine HWk.out.mono ?_
      rintro e w2 ⟨rfl, h1⟩
      go_wp2
      go_ret
      exact ⟨rfl, h1⟩
    | false =>
      rw [hg] at HGr
      have hgb := great_bounds hg
      have HGB := Lib.hid hgb.2
      have hm12 : m ≤ 12 := by rw [← HLP.out]; exact hgb.1
      clear hg hgb
      have HNw := Lib.hid (New_any 40 h0)
      go_enter Tryd.func3, Tryd.ntmps3
      go_wp2_with fail
      refine HGr.out.mono ?_
      rintro e w1 ⟨rfl, rfl⟩
      go_wp2_with fail
      refine HNw.out.mono ?_
      rintro e w2 ⟨tp, rfl, h2⟩
      clear h0 HNw HGr
      go_wp2_with fail
      go_loopw [6] (fun iv wr => ∃ (i : Nat) (es : EntsV), i ≤ n ∧ iv = .int .i64 i ∧ Hid (Few es i) ∧ St w1 wr (star (IsT tp 40 es) emp)) (fun iv _ => n - (intOf iv).toNat)
      case atStart => exact ⟨0, [], Nat.zero_le _, rfl, Lib.hid (Few.nil 0), h2⟩
      case round =>
        obtain ⟨i, es, hi, rfl, HF, hS⟩ := hrel
        clear h2
        by_cases hin : i < n
        · obtain ⟨x, hx⟩ : ∃ x, l[i]? = some x := ⟨_, List.getElem?_eq_getElem (by rw [HLN.out]; exact hin)⟩
          obtain ⟨ab, ao, rfl, hel⟩ := strs_at (sl_later HSL.out hS) hx
          have he := hel _ _ (St.start wr)
          have hxm := HLM.out x (List.mem_of_getElem? hx)
          unfold maxLen at hxm
          clear hel hx
          by_cases h200 : 200 < x.length
          · have hd2 : decide (200 < (x.length : Int)) = true := decide_eq_true (by omega)
            have HW3 := Lib.hid (wakes_any HM.out hS)
            clear h200
            go_wp2_with fail
            refine HW3.out.mono ?_
            rintro e w3 ⟨rfl, h3⟩
            clear he
            go_wp2
            go_ret
            exact ⟨rfl, h3.forget⟩
          · have hd2 : decide (200 < (x.length : Int)) = false := decide_eq_false (by omega)
            have HA := Lib.hid (Add_any tp 40 es hS (by have := HF.out.1; omega) HM.out x (by omega) (i : Int))
            have HF2 : Hid (Few (addT es 40 x (.int .i64 i)).2 (i + 1)) := Lib.hid (HF.out.add 40 x (by omega) _)
            generalize addT es 40 x (.int .i64 i) = r at *
            obtain ⟨r1, r2⟩ := r
            go_wp2_with fail
            refine HA.out.mono ?_
            rintro e w3 ⟨rfl, h3⟩
            clear he
            go_wp2_with fail
            exact ⟨⟨i + 1, r2, hin, by go_num, HF2, h3⟩, by simp [intOf]; omega⟩
        · obtain rfl : i = n := by omega
          have HFi := Lib.hid (Find_any tp 40 es hS HF.out.long HM.out qa m qc path (sl_later HSP.out hS) HLP.out (by omega) (fun x hx => by have := HGB.out x hx; omega))
          clear hi hin
          obtain ⟨root, F, lv, hI, hG, -⟩ := TrC.St.isT hS
          have HG := Lib.hid hG
          clear hI hG
          cases hf : findT es path with
          | none =>
            have HFN := Lib.hid hf
            clear hf
            go_wp2_with fail
            refine HFi.out.mono ?_
            rintro e w3 hq
            obtain ⟨rfl, h3⟩ := fp_out hq HFN.out
            have HW3 := Lib.hid (wakes_any HM.out h3)
            clear hq hS
            go_wp2_with fail
            refine HW3.out.mono ?_
            rintro e w4 ⟨rfl, h4⟩
            go_wp2
            go_ret
            exact ⟨rfl, h4.forget⟩
          | some v =>
            obtain ⟨p, x, ps⟩ := v
            obtain ⟨k, sl, -, hget, hspl, -, hfit, hps⟩ := find_why HG.out hf
            have hpl := HF.out.2 _ (getM_mem hget)
            obtain ⟨e1, e2, e3⟩ := found_parts hspl hfit
            have HFS := Lib.hid hf
            have HE1 := Lib.hid e1
            have HE2 : Hid (params (parts (p.drop 1)) path = ps) := Lib.hid (by rw [e2, hps])
            have HE3 := Lib.hid e3
            have hwl : (wantP path).length ≤ 1000 := by
              unfold wantP
              split
              · simp
              · have := flat_bound path 40 HGB.out
                rw [HLP.out] at this
                omega
            simp only at hpl
            clear hf hget hspl hfit hps e1 e2 e3
            go_wp2_with fail
            refine HFi.out.mono ?_
            rintro e w3 hq
            obtain ⟨fa, fc, rfl, h3⟩ := fp_at hq HFS.out
            clear hq hS HFi
            have hfcap : ps.length ≤ fc ∧ fc ≤ 9223372036854775807 := by obtain ⟨_, _, _, hv, h1, h2, _⟩ := h3.rowSl; cases hv; exact ⟨h1, by simpa [maxLen] using h2⟩
            have hplm : p.length ≤ 9223372036854775807 := by omega
            go_wp2_with fail
            go_loop [11, 12] (fun sv iv => ∃ i : Nat, i ≤ m ∧ iv = .int .i64 i ∧ sv = .string ⟨(flatS (path.take i)).toArray⟩) (fun _ iv => m - (intOf iv).toNat)
            case atStart => exact ⟨0, Nat.zero_le _, rfl, rfl⟩
            case round =>
              obtain ⟨i2, hi2, rfl, rfl⟩ := hrel
              by_cases hin2 : i2 < m
              · obtain ⟨y, hy⟩ : ∃ y, path[i2]? = some y := ⟨_, List.getElem?_eq_getElem (by rw [HLP.out]; exact hin2)⟩
                obtain ⟨ab, ao, rfl, hel⟩ := strs_at (sl_later HSP.out h3) hy
                have he := hel _ _ (St.start w3)
                have hyl := HGB.out y (List.mem_of_getElem? hy)
                have hfl := flat_bound (path.take i2) 40 (fun x hx => HGB.out x (List.mem_of_mem_take hx))
                have hfl2 : (flatS (path.take i2)).length ≤ 1000 := by
                  have : (path.take i2).length ≤ 12 := by rw [List.length_take, HLP.out]; omega
                  have := Nat.mul_le_mul_right (40 + 1) this
                  omega
                have HT : Hid (flatS (path.take (i2 + 1)) = (flatS (path.take i2) ++ [47]) ++ y) := Lib.hid (by rw [take_snoc path i2 y hy, flatS_append]; simp [flatS])
                have a1 := run_str_add (P := Tryd.prog) (flatS (path.take i2)) [47] (by simp; omega)
                have a2 := run_str_add (P := Tryd.prog) (flatS (path.take i2) ++ [47]) y (by simp; omega)
                clear hel hy hfl
                generalize flatS (path.take i2) = f1 at *
                go_wp2_with fail
                exact ⟨⟨i2 + 1, hin2, by go_num, str_eq (by rw [HT.out]; simp)⟩, by simp [intOf]; omega⟩
              · obtain rfl : i2 = m := by omega
                rw [List.take_of_length_le (by rw [HLP.out]; exact Nat.le_refl _)]
                have hsw : ∃ sw : Tx, Hid (wantP path = sw) ∧ ((i2 = 0 ∧ sw = [47]) ∨ (0 < i2 ∧ sw = flatS path)) := by
                  by_cases h0 : i2 = 0
                  · refine ⟨[47], Lib.hid ?_, .inl ⟨h0, rfl⟩⟩
                    have : path = [] := List.eq_nil_of_length_eq_zero (by rw [HLP.out, h0])
                    unfold wantP; rw [if_pos this]
                  · refine ⟨flatS path, Lib.hid ?_, .inr ⟨by omega, rfl⟩⟩
                    unfold wantP; rw [if_neg]
                    rintro rfl
                    exact h0 HLP.out.symm
                obtain ⟨segs, hsegs⟩ : ∃ segs, parts (p.drop 1) = segs := ⟨_, rfl⟩
                have H47 : Hid (∀ x ∈ segs, ∀ a ∈ x, a ≠ 47) := Lib.hid (by rw [← hsegs]; exact parts_no47 _)
                rw [hsegs] at HE1 HE2 HE3
                clear hsegs hi2 hin2
                have w3e : ∃ w4, w3 = w4 := ⟨_, rfl⟩
                obtain ⟨sw, HSW, hsw⟩ := hsw
                rcases hsw with ⟨hm0, rfl⟩ | ⟨hm0, rfl⟩
                all_goals
                  first | (have hm1 : ((i2 : Int) == 0) = true := by simp; omega) | (have hm1 : ((i2 : Int) == 0) = false := by simp; omega)
                  clear hm0 w3e
                  try (generalize flatS path = fp at *)
                  go_wp2_with fail
                  go_loopw [13, 14, 15] (fun gv kv iv wr => ∃ (j I K : Nat) (fpre : List Tx) (pre : List TrQ.Fd), j ≤ segs.length ∧ iv = .int .i64 I ∧ kv = .int .i64 K ∧ gv = .string ⟨(flatS fpre).toArray⟩ ∧ Hid ((flatS (segs.take j)).length = I) ∧ Hid (pre.length = K) ∧ Hid (params segs path = pre ++ params (segs.drop j) (path.drop j)) ∧ Hid (fill segs path = fpre ++ fill (segs.drop j) (path.drop j)) ∧ St w1 wr (star (Row 33 2 (.slice fa ps.length fc) ps.length (fldV ps)) (star (IsT tp 40 es) emp))) (fun _ _ iv _ => p.length - (intOf iv).toNat)
                  case atStart => exact ⟨0, 0, 0, [], [], Nat.zero_le _, rfl, rfl, rfl, Lib.hid rfl, Lib.hid rfl, Lib.hid rfl, Lib.hid rfl, h3⟩
                  case round =>
                    obtain ⟨j, I, K, fpre, pre, hj, rfl, rfl, rfl, HI, HK, HPA, HFI, hS⟩ := hrel
                    by_cases hjn : j < segs.length
                    · obtain ⟨sg, hsg⟩ : ∃ sg, segs[j]? = some sg := ⟨_, List.getElem?_eq_getElem hjn⟩
                      have hnext := flat_len_take hsg
                      rw [HI.out] at hnext
                      have hle : (flatS (segs.take (j + 1))).length ≤ p.length := by
                        have := flat_len_le (l := segs) (j := j + 1)
                        rwa [← HE1.out] at this
                      rw [hnext] at hle
                      have HNX := Lib.hid hnext
                      have hcut0 := run_str_lh (P := Tryd.prog) 9 Tryd.underlying9 p ((I : Int) + 1) ((I + 1 + sg.length : Nat) : Int) (I + 1) (I + 1 + sg.length) (by omega) rfl (by omega) hle
                      have hseg := flat_seg HE1.out hsg
                      rw [HI.out] at hseg
                      rw [show I + 1 + sg.length - (I + 1) = sg.length from by omega, hseg] at hcut0
                      have HAT : Hid (∀ q (hq : q < (ByteArray.mk p.toArray).size), I + 1 ≤ q → q < I + 1 + sg.length → sg[q - (I + 1)]? = some ((ByteArray.mk p.toArray)[q]'hq)) := Lib.hid (by
                        intro q hq h1 h2
                        have := flat_seg_at HE1.out hsg (q - (I + 1)) (by omega)
                        rw [HI.out, show I + 1 + (q - (I + 1)) = q from by omega] at this
                        rw [← this]; exact get_byte p q hq)
                      have HEN : Hid (∀ (hq : I + 1 + sg.length < (ByteArray.mk p.toArray).size), (ByteArray.mk p.toArray)[I + 1 + sg.length]'hq = 47) := Lib.hid (by
                        intro hq
                        refine flat_seg_end HE1.out hsg (c := (ByteArray.mk p.toArray)[I + 1 + sg.length]'hq) ?_
                        rw [HI.out]
                        exact get_byte p _ hq)
                      have hno47 : ∀ c ∈ sg, c ≠ 47 := H47.out sg (List.mem_of_getElem? hsg)
                      have HNO := Lib.hid hno47
                      have HSG := Lib.hid hsg
                      have hIp : I < p.length := by omega
                      obtain ⟨E, hE⟩ : ∃ E, I + 1 + sg.length = E := ⟨_, rfl⟩
                      rw [hE] at hcut0 hle HAT HEN HNX
                      have HEE := Lib.hid hE
                      clear hno47 hsg hseg hnext hE
                      have hIE : I + 1 ≤ E := by have := HEE.out; omega
                      obtain ⟨wo, rfl⟩ : ∃ wo : World, wo = wr := ⟨_, rfl⟩
                      go_wp2_with fail
                      go_loop [16] (fun qv => ∃ q : Nat, I + 1 ≤ q ∧ q ≤ E ∧ qv = .int .i64 q) (fun qv => p.length - (intOf qv).toNat)
                      case atStart => exact ⟨I + 1, Nat.le_refl _, hIE, by go_num⟩
                      case round =>
                        obtain ⟨q, hq1, hq2, rfl⟩ := hrel
                        by_cases hqe : q < E
                        · have hqs : q < (ByteArray.mk p.toArray).size := by simp [ByteArray.size]; omega
                          have hb := HAT.out q hqs hq1 hqe
                          have hqp : q < p.length := by omega
                          generalize hch : (ByteArray.mk p.toArray)[q]'hqs = c at *
                          have hc47 : c ≠ 47 := HNO.out c (List.mem_of_getElem? hb)
                          have hcI : ((c.toNat : Int) != 47) = true := by have := byte_no hc47; simpa [bne] using this
                          clear hb hc47
                          go_wp2_with fail
                          exact ⟨⟨q + 1, by omega, hqe, by go_num⟩, by simp [intOf]; omega⟩
                        · obtain rfl : q = E := by omega
                          have hext : (decide (q < p.length) = false) ∨ ∃ hq : q < (ByteArray.mk p.toArray).size, (ByteArray.mk p.toArray)[q]'hq = 47 ∧ q < p.length := by
                            by_cases h : q = p.length
                            · exact .inl (decide_eq_false (by omega))
                            · exact .inr ⟨by simp [ByteArray.size]; omega, HEN.out _, by omega⟩
                          have HP2 : Hid (params segs path = pre ++ (if sg.head? = some 58 then [(sg.drop 1, (path.drop j).headD [])] else if sg.head? = some 42 then [(sg.drop 1, joinS (path.drop j))] else []) ++ params (segs.drop (j + 1)) (path.drop (j + 1))) := Lib.hid (params_at HPA.out HSG.out)
                          have HF2 : Hid (fill segs path = fpre ++ [if sg.head? = some 58 then (path.drop j).headD [] else if sg.head? = some 42 then joinS (path.drop j) else sg] ++ fill (segs.drop (j + 1)) (path.drop (j + 1))) := Lib.hid (by rw [HFI.out, fill_drop _ _ j sg HSG.out]; simp)
                          have hnew : ∃ (vv : Tx) (adds : List TrQ.Fd), Hid (fill segs path = (fpre ++ [vv]) ++ fill (segs.drop (j + 1)) (path.drop (j + 1))) ∧ Hid (params segs path = (pre ++ adds) ++ params (segs.drop (j + 1)) (path.drop (j + 1))) ∧ ((isSp sg = false ∧ vv = sg ∧ adds = []) ∨ (isSp sg = true ∧ adds = [(sg.drop 1, vv)])) := by
                            have hp := HP2.out
                            have hf := HF2.out
                            by_cases h58 : sg.head? = some 58
                            · rw [if_pos h58] at hp hf
                              exact ⟨_, _, Lib.hid hf, Lib.hid hp, .inr ⟨isSp_iff.2 (.inl h58), rfl⟩⟩
                            · rw [if_neg h58] at hp hf
                              by_cases h42 : sg.head? = some 42
                              · rw [if_pos h42] at hp hf
                                exact ⟨_, _, Lib.hid hf, Lib.hid hp, .inr ⟨isSp_iff.2 (.inr h42), rfl⟩⟩
                              · rw [if_neg h42] at hp hf
                                refine ⟨_, _, Lib.hid hf, Lib.hid hp, .inl ⟨?_, rfl, rfl⟩⟩
                                cases hh : isSp sg with
                                | false => rfl
                                | true => exact absurd (isSp_iff.1 hh) (by simp [h58, h42])
                          obtain ⟨vv, adds, HF3, HP3, hkind⟩ := hnew
                          have hglen : (flatS (fpre ++ [vv])).length ≤ 1000 := by
                            have := HE3.out
                            rw [HF3.out, flatS_append] at this
                            have := congrArg List.length this
                            rw [List.length_append] at this
                            omega
                          have hfv : flatS (fpre ++ [vv]) = (flatS fpre ++ [47]) ++ vv := by rw [flatS_append]; simp [flatS]
                          rw [hfv] at hglen
                          have HFV := Lib.hid hfv
                          have a1 := run_str_add (P := Tryd.prog) (flatS fpre) [47] (by simp at hglen ⊢; omega)
                          have a2 := run_str_add (P := Tryd.prog) (flatS fpre ++ [47]) vv (by simp at hglen ⊢; omega)
                          clear hfv HP2 HF2 hq1 hq2 hqe HAT HEN
                          generalize flatS fpre = gp at *
                          rcases hkind with ⟨hsp, rfl, rfl⟩ | ⟨hsp, rfl⟩
                          · rw [List.append_nil] at HP3
                            by_cases hs0 : vv = []
                            · subst hs0
                              rcases hext with hx | ⟨hqz, hx, hlt⟩
                              all_goals
                                go_wp2_with fail
                                exact ⟨⟨j + 1, q, K, fpre ++ [[]], pre, hjn, rfl, rfl, str_eq (by rw [HFV.out]; simp), HNX, HK, HP3, HF3, hS⟩, by simp [intOf]; omega⟩
                            · have hs1 : (vv == []) = false := by simpa using hs0
                              have hs2 : (vv != []) = true := by simpa using hs0
                              have hsz : 0 < (ByteArray.mk vv.toArray).size := by
                                cases vv with
                                | nil => exact absurd rfl hs0
                                | cons => simp [ByteArray.size]
                              have hhd := head_get vv hsz
                              have hz : 0 < vv.length := by simpa [ByteArray.size] using hsz
                              generalize hch : (ByteArray.mk vv.toArray)[0]'hsz = c at *
                              have hc58 : ((c.toNat : Int) == 58) = false := byte_no (c := 58) (fun e => by rw [isSp_iff.2 (.inl (by rw [hhd, e]))] at hsp; cases hsp)
                              have hc42 : ((c.toNat : Int) == 42) = false := byte_no (c := 42) (fun e => by rw [isSp_iff.2 (.inr (by rw [hhd, e]))] at hsp; cases hsp)
                              clear hhd hs0 hsp
                              rcases hext with hx | ⟨hqz, hx, hlt⟩
                              all_goals
                                go_wp2_with fail
                                exact ⟨⟨j + 1, q, K, fpre ++ [vv], pre, hjn, rfl, rfl, str_eq (by rw [HFV.out]; simp), HNX, HK, HP3, HF3, hS⟩, by simp [intOf]; omega⟩
                          · have hs0 : sg ≠ [] := by rintro rfl; cases hsp
                            have hs1 : (sg == []) = false := by simpa using hs0
                            have hs2 : (sg != []) = true := by simpa using hs0
                            have hsz : 0 < (ByteArray.mk sg.toArray).size := by
                              cases sg with
                              | nil => exact absurd rfl hs0
                              | cons => simp [ByteArray.size]
                            have hhd := head_get sg hsz
                            have hz : 0 < sg.length := by simpa [ByteArray.size] using hsz
                            have hstr := run_str_l (P := Tryd.prog) 9 Tryd.underlying9 sg 1 1 rfl hz
                            generalize hch : (ByteArray.mk sg.toArray)[0]'hsz = c at *
                            have hcc : c = 58 ∨ c = 42 := by
                              rcases isSp_iff.1 hsp with h | h
                              · rw [hhd] at h; exact .inl (by simpa using h)
                              · rw [hhd] at h; exact .inr (by simpa using h)
                            have hpk : ps[K]? = some (sg.drop 1, vv) := by
                              rw [← HE2.out, HP3.out, List.append_assoc, ← HK.out, List.getElem?_append_right (Nat.le_refl _), Nat.sub_self]; rfl
                            have hkl : K < ps.length := (List.getElem?_eq_some_iff.1 hpk).1
                            obtain ⟨xb, xo, rfl, x1, x2⟩ := elF (hS.drew.rowSl) hpk
                            have hPL : Hid ((pre ++ [(sg.drop 1, vv)]).length = K + 1) := Lib.hid (by rw [List.length_append, HK.out]; rfl)
                            have HP4 : Hid (params segs path = (pre ++ [(sg.drop 1, vv)]) ++ params (segs.drop (j + 1)) (path.drop (j + 1))) := HP3
                            have HPK := Lib.hid hpk
                            have HSP4 := Lib.hid hsp
                            clear hpk hhd hs0 hsp HP3
                            generalize hsg1 : sg.drop 1 = sg1 at *
                            clear hsg1
                            have hdk : decide ((ps.length : Int) ≤ (K : Int)) = false := decide_eq_false (by omega)
                            have hdk2 : decide (ps.length ≤ K) = false := decide_eq_false (by omega)
                            have hSd := hS.drew
                            rcases hcc with rfl | rfl
                            all_goals
                              rcases hext with hx | ⟨hqz, hx, hlt⟩
                              all_goals
                                go_wp2_with fail
                                refine wp_region_canon [0, 1, 2, 3, 4, 5, 6, 7, 8, 9, 10, 11, 12, 13] (by kernel_rfl) (by kernel_rfl) ?_
                                simp only [pickOps, nthOp]
                                go_wp2_with fail
                                simp only [Only]
                                go_wp2_with fail
                                exact ⟨⟨j + 1, q, K + 1, fpre ++ [vv], pre ++ [(sg1, vv)], hjn, rfl, by go_num, str_eq (by rw [HFV.out]; simp), HNX, hPL, HP4, HF3, hSd⟩, by simp [intOf]; omega⟩
                    · obtain rfl : j = segs.length := by omega
                      have hd1 : segs.drop segs.length = [] := List.drop_of_length_le (Nat.le_refl _)
                      have hpp : ps = pre := by
                        have := HPA.out
                        rw [hd1] at this
                        rw [← HE2.out, this]; simp [params]
                      have hff : flatS fpre = wantP path := by
                        have := HFI.out
                        rw [hd1] at this
                        rw [← HE3.out, this]; simp [fill]
                      have hII : I = p.length := by
                        rw [← HI.out, List.take_length, ← HE1.out]
                      have hKK : K = ps.length := by rw [hpp, HK.out]
                      rw [hff, HSW.out]
                      subst hII
                      subst hKK
                      have HW3 := Lib.hid (wakes_any HM.out hS)
                      clear hd1 hpp hff hj hjn HI HK HPA HFI
                      go_wp2_with fail
                      refine HW3.out.mono ?_
                      rintro e w5 ⟨rfl, h5⟩
                      go_wp2
                      go_ret
                      exact ⟨rfl, h5.forget⟩
theorem fills_walk {W : World} (hm : MaxLen W) (pa : Option Addr) (n pc : Nat) (l : List Tx) (hln : l.length = n) (hsl : Sl W 1 (.slice pa n pc) n (l.flatMap Str.E)) (hok : ∀ x ∈ l, Str.Ok x)
    (qa : Option Addr) (m qc : Nat) (path : List Tx) (hlp : path.length = m) (hsp : Sl W 1 (.slice qa m qc) m (path.flatMap Str.E)) (hpk : ∀ x ∈ path, Str.Ok x) :
    Calls Tryd.prog 3 #[.slice pa n pc, .slice qa m qc] W (Law W emp) :=
  fills_any hm pa n pc l hln (by rw [← strsV_E]; exact hsl) hok qa m qc path hlp (by rw [← strsV_E]; exact hsp) hpk
end Go.Proofs.YtjobidgihjfheaaDoor.TrF
