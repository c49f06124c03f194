import Derived.Test.YtjnkgblcfoblcaaDoorWdM
namespace Go.Proofs.YtjnkgblcfoblcaaDoor.WdB
open Go Go.RowKit Go.Proofs Go.Proofs.YtjnkgblcfoblcaaDoor.Sep Go.Proofs.YtjnkgblcfoblcaaDoor.Reg Go.Proofs.YtjnkgblcfoblcaaDoor.Frame Go.Proofs.YtjnkgblcfoblcaaDoor.Strs Go.Proofs.YtjnkgblcfoblcaaDoor.WdP Go.Proofs.YtjnkgblcfoblcaaDoor.WdT Go.Proofs.YtjnkgblcfoblcaaDoor.WdN Go.Proofs.YtjnkgblcfoblcaaDoor.WdC Go.Proofs.YtjnkgblcfoblcaaDoor.WdD Go.Proofs.YtjnkgblcfoblcaaDoor.WdE Go.Proofs.YtjnkgblcfoblcaaDoor.WdF Go.Proofs.YtjnkgblcfoblcaaDoor.WdH Go.Proofs.YtjnkgblcfoblcaaDoor.WdL Go.Proofs.YtjnkgblcfoblcaaDoor.WdM

theorem bytesW_len {k : Int} {t d s : List UInt8} (h : bytesW k t d = some s) : s.length ≤ t.length + d.length + 10 := by
  unfold bytesW at h
  split at h
  · cases h
  · split at h
    · split at h
      · cases h; simp [wSUB]; omega
      · cases h
    · split at h
      · split at h
        · cases h; simp [wUNSUB]; omega
        · cases h
      · split at h
        · cases h; simp [wPUB]; omega
        · cases h
theorem toldW_len {t d s : List UInt8} {a b : Int} (h : toldW t a b d = some s) : s.length ≤ t.length + d.length + 50 := by
  unfold toldW at h
  split at h
  · rename_i hc
    simp only [Bool.and_eq_true, may, decide_eq_true_eq] at hc
    have h1 := dec_len 19 a.toNat (by omega) (by omega)
    have h2 := dec_len 19 b.toNat (by omega) (by omega)
    cases h; simp [wMSG]; omega
  · cases h
theorem faultW_len {n : Int} {s : List UInt8} (h : faultW n = some s) : s.length ≤ 30 := by
  unfold faultW at h
  split at h
  · rename_i hc
    simp only [Bool.and_eq_true, may, decide_eq_true_eq] at hc
    have h1 := dec_len 19 n.toNat (by omega) (by omega)
    cases h; simp [wERR]; omega
  · cases h

set_option maxRecDepth 100000 in
set_option maxHeartbeats 16000000 in
theorem back_law (k : Int) (t d t2 : List UInt8) (a b : Int) (d2 : List UInt8) (n : Int) (W : World) (hG : Gl W) :
    Calls Tryd.prog 6 #[.agg #[.int .i64 k, .string ⟨t.toArray⟩, .string ⟨d.toArray⟩], .agg #[.string ⟨t2.toArray⟩, .int .i64 a, .int .i64 b, .string ⟨d2.toArray⟩], .int .i64 n] W (Makes W (.bool true)) := by
  have h0 := ((St.start W).alloc (.cells #[.int .i64 k, .string ⟨t.toArray⟩, .string ⟨d.toArray⟩] 23 (0, 0))).alloc (.cells #[.string ⟨t2.toArray⟩, .int .i64 a, .int .i64 b, .string ⟨d2.toArray⟩] 25 (0, 0))
  rw [alloc_size] at h0
  have gC := guardC
  have gD := guardD
  have nC := neq_cmd k t d
  have nD := neq_del t2 a b d2
  go_enter Tryd.func6, Tryd.ntmps6
  go_wp2_with fail
  refine (awake_any _ (hG.st h0)).mono ?_
  rintro e w1 hq
  have h1 := h0.makes hq
  obtain ⟨rfl, -⟩ := hq
  have da0 := h1.cell 0 rfl
  have da1 := h1.cell 1 rfl
  have da2 := h1.cell 2 rfl
  have da3 := h1.cell 3 rfl
  have ca0 := h1.right.cell 0 rfl
  have ca1 := h1.right.cell 1 rfl
  have ca2 := h1.right.cell 2 rfl
  by_cases hs_t : 5000 < t.length
  · go_wp2
    go_ret
    exact ⟨rfl, h1.below⟩
  by_cases hs_d : 5000 < d.length
  · go_wp2
    go_ret
    exact ⟨rfl, h1.below⟩
  by_cases hs_t2 : 5000 < t2.length
  · go_wp2
    go_ret
    exact ⟨rfl, h1.below⟩
  by_cases hs_d2 : 5000 < d2.length
  · go_wp2
    go_ret
    exact ⟨rfl, h1.below⟩
  obtain ⟨s1, e1⟩ : ∃ s, bytesW k t d = s := ⟨_, rfl⟩
  have P1 := Lib.hid fun w => Bytes_any k t d _ rfl w (by omega) (by omega)
  obtain ⟨s2, e2⟩ : ∃ s, toldW t2 a b d2 = s := ⟨_, rfl⟩
  have P2 := Lib.hid fun w h => Told_any t2 a b d2 _ rfl w h (by omega) (by omega)
  obtain ⟨s3, e3⟩ : ∃ s, faultW n = s := ⟨_, rfl⟩
  have P3 := Lib.hid fun w h => Fault_any n _ rfl w h
  rw [e1] at P1
  rw [e2] at P2
  rw [e3] at P3
  have E1 := Lib.hid e1
  have E2 := Lib.hid e2
  have E3 := Lib.hid e3
  clear e1 e2 e3
  cases s1 with
  | none =>
    simp only [txtV] at P1
    go_wp2_with fail
    refine (P1.out _).mono ?_
    rintro e w_h2 hq
    have h2 := h1.makes hq
    obtain ⟨rfl, -⟩ := hq
    clear da0 da1 da2 da3 ca0 ca1 ca2
    have da0 := h2.cell 0 rfl
    have da1 := h2.cell 1 rfl
    have da2 := h2.cell 2 rfl
    have da3 := h2.cell 3 rfl
    have ca0 := h2.right.cell 0 rfl
    have ca1 := h2.right.cell 1 rfl
    have ca2 := h2.right.cell 2 rfl
    cases s2 with
    | none =>
      simp only [txtV] at P2
      go_wp2_with fail
      refine (P2.out _ (hG.st h2)).mono ?_
      rintro e w_j1 hq
      have j1 := h2.makes hq
      obtain ⟨rfl, -⟩ := hq
      cases s3 with
      | none =>
        simp only [strV] at P3
        have Q3 := Lib.hid fun w h => Faulted_any [] (.tuple #[.int .i64 0, .bool false]) (by rfl) w h (by decide)
        have hm : may n = false := by
          have := E3.out
          unfold faultW at this
          split at this
          · cases this
          · rename_i hc; simpa using hc
        by_cases hn0 : 0 ≤ n
        · have hn1 : 4611686018427387904 < n := by
            simp only [may, Bool.and_eq_false_iff, decide_eq_false_iff_not] at hm
            omega
          clear hm
          go_wp2_with fail
          refine (P3.out _ (hG.st j1)).mono ?_
          rintro e w_k1 hq
          have k1 := j1.makes hq
          obtain ⟨rfl, -⟩ := hq
          go_wp2_with fail
          refine (Q3.out _ (hG.st k1)).mono ?_
          rintro e w_k2 hq
          have k2 := k1.makes hq
          obtain ⟨rfl, -⟩ := hq
          go_wp2
          go_ret
          refine ⟨?_, k2.below⟩
          show Ending.returned (Value.bool _) = _
          exact ret_bool (by simp; try omega)
        · clear hm
          go_wp2_with fail
          refine (P3.out _ (hG.st j1)).mono ?_
          rintro e w_k1 hq
          have k1 := j1.makes hq
          obtain ⟨rfl, -⟩ := hq
          go_wp2_with fail
          refine (Q3.out _ (hG.st k1)).mono ?_
          rintro e w_k2 hq
          have k2 := k1.makes hq
          obtain ⟨rfl, -⟩ := hq
          go_wp2
          go_ret
          refine ⟨?_, k2.below⟩
          show Ending.returned (Value.bool _) = _
          exact ret_bool (by simp; try omega)
      | some s =>
        obtain ⟨m, hmn, hm2, hm3⟩ := faulted_fault E3.out
        subst hmn
        simp only [strV] at P3
        have hl := faultW_len E3.out
        have Q3 := Lib.hid fun w h => Faulted_any s (.tuple #[.int .i64 m, .bool true]) (by rw [hm2]; rfl) w h (by omega)
        clear hm2
        go_wp2_with fail
        refine (P3.out _ (hG.st j1)).mono ?_
        rintro e w_k1 hq
        have k1 := j1.makes hq
        obtain ⟨rfl, -⟩ := hq
        go_wp2_with fail
        refine (Q3.out _ (hG.st k1)).mono ?_
        rintro e w_k2 hq
        have k2 := k1.makes hq
        obtain ⟨rfl, -⟩ := hq
        go_wp2
        go_ret
        refine ⟨?_, k2.below⟩
        show Ending.returned (Value.bool _) = _
        exact ret_bool (by simp; try omega)
    | some s =>
      obtain ⟨m1, m2, ha, hb, hh⟩ := hear_told E2.out
      subst ha
      subst hb
      simp only [txtV] at P2
      have hl2 := toldW_len E2.out
      have Q2 := Lib.hid fun w h => Hear_any s (.tuple #[.agg #[.string ⟨t2.toArray⟩, .int .i64 m1, .int .i64 m2, .string ⟨d2.toArray⟩], .bool true]) (by rw [hh]; rfl) w h (by omega)
      clear hh
      go_wp2_with fail
      refine (P2.out _ (hG.st h2)).mono ?_
      rintro e w_j1 hq
      have j1 := h2.makes hq
      obtain ⟨rfl, -⟩ := hq
      go_wp2_with fail
      refine (Q2.out _ (hG.st j1)).mono ?_
      rintro e w_j2 hq
      have j2 := j1.makes hq
      obtain ⟨rfl, -⟩ := hq
      clear da0 da1 da2 da3 ca0 ca1 ca2
      have j3 := j2.alloc (.cells #[.string ⟨t2.toArray⟩, .int .i64 m1, .int .i64 m2, .string ⟨d2.toArray⟩] 25 (0, 0))
      have ra0 := j3.cell 0 rfl
      have ra1 := j3.cell 1 rfl
      have ra2 := j3.cell 2 rfl
      have ra3 := j3.cell 3 rfl
      have da0 := j3.right.cell 0 rfl
      have da1 := j3.right.cell 1 rfl
      have da2 := j3.right.cell 2 rfl
      have da3 := j3.right.cell 3 rfl
      have ca0 := j3.right.right.cell 0 rfl
      have ca1 := j3.right.right.cell 1 rfl
      have ca2 := j3.right.right.cell 2 rfl
      cases s3 with
      | none =>
        simp only [strV] at P3
        have Q3 := Lib.hid fun w h => Faulted_any [] (.tuple #[.int .i64 0, .bool false]) (by rfl) w h (by decide)
        have hm : may n = false := by
          have := E3.out
          unfold faultW at this
          split at this
          · cases this
          · rename_i hc; simpa using hc
        by_cases hn0 : 0 ≤ n
        · have hn1 : 4611686018427387904 < n := by
            simp only [may, Bool.and_eq_false_iff, decide_eq_false_iff_not] at hm
            omega
          clear hm
          go_wp2_with fail
          refine (P3.out _ (hG.st j3)).mono ?_
          rintro e w_k1 hq
          have k1 := j3.makes hq
          obtain ⟨rfl, -⟩ := hq
          go_wp2_with fail
          refine (Q3.out _ (hG.st k1)).mono ?_
          rintro e w_k2 hq
          have k2 := k1.makes hq
          obtain ⟨rfl, -⟩ := hq
          go_wp2
          go_ret
          refine ⟨?_, k2.below⟩
          show Ending.returned (Value.bool _) = _
          exact ret_bool (by simp; try omega)
        · clear hm
          go_wp2_with fail
          refine (P3.out _ (hG.st j3)).mono ?_
          rintro e w_k1 hq
          have k1 := j3.makes hq
          obtain ⟨rfl, -⟩ := hq
          go_wp2_with fail
          refine (Q3.out _ (hG.st k1)).mono ?_
          rintro e w_k2 hq
          have k2 := k1.makes hq
          obtain ⟨rfl, -⟩ := hq
          go_wp2
          go_ret
          refine ⟨?_, k2.below⟩
          show Ending.returned (Value.bool _) = _
          exact ret_bool (by simp; try omega)
      | some s =>
        obtain ⟨m, hmn, hm2, hm3⟩ := faulted_fault E3.out
        subst hmn
        simp only [strV] at P3
        have hl := faultW_len E3.out
        have Q3 := Lib.hid fun w h => Faulted_any s (.tuple #[.int .i64 m, .bool true]) (by rw [hm2]; rfl) w h (by omega)
        clear hm2
        go_wp2_with fail
        refine (P3.out _ (hG.st j3)).mono ?_
        rintro e w_k1 hq
        have k1 := j3.makes hq
        obtain ⟨rfl, -⟩ := hq
        go_wp2_with fail
        refine (Q3.out _ (hG.st k1)).mono ?_
        rintro e w_k2 hq
        have k2 := k1.makes hq
        obtain ⟨rfl, -⟩ := hq
        go_wp2
        go_ret
        refine ⟨?_, k2.below⟩
        show Ending.returned (Value.bool _) = _
        exact ret_bool (by simp; try omega)
  | some s =>
    obtain ⟨m0, hk, hp, ht⟩ := parse_bytes E1.out
    subst hk
    simp only [txtV] at P1
    have hl1 := bytesW_len E1.out
    have Q1 := Lib.hid fun w h => Parse_any s (.tuple #[.agg #[.int .i64 m0, .string ⟨t.toArray⟩, .string ⟨d.toArray⟩], .bool true]) (by rw [hp]; rfl) w h (by omega)
    have T1 := Lib.hid fun w => (Topic_any t w (by omega)).mono fun e w' h => h.eq (v := .bool true) (by rw [ht])
    clear hp ht
    go_wp2_with fail
    refine (P1.out _).mono ?_
    rintro e w_h2 hq
    have h2 := h1.makes hq
    obtain ⟨rfl, -⟩ := hq
    go_wp2_with fail
    refine (Q1.out _ (hG.st h2)).mono ?_
    rintro e w_h3 hq
    have h3 := h2.makes hq
    obtain ⟨rfl, -⟩ := hq
    clear da0 da1 da2 da3 ca0 ca1 ca2
    have h4 := h3.alloc (.cells #[.int .i64 m0, .string ⟨t.toArray⟩, .string ⟨d.toArray⟩] 23 (0, 0))
    have pa0 := h4.cell 0 rfl
    have pa1 := h4.cell 1 rfl
    have pa2 := h4.cell 2 rfl
    have da0 := h4.right.cell 0 rfl
    have da1 := h4.right.cell 1 rfl
    have da2 := h4.right.cell 2 rfl
    have da3 := h4.right.cell 3 rfl
    have ca0 := h4.right.right.cell 0 rfl
    have ca1 := h4.right.right.cell 1 rfl
    have ca2 := h4.right.right.cell 2 rfl
    go_wp2_with fail
    refine (T1.out _).mono ?_
    rintro e w' ⟨rfl, rfl⟩
    cases s2 with
    | none =>
      simp only [txtV] at P2
      go_wp2_with fail
      refine (P2.out _ (hG.st h4)).mono ?_
      rintro e w_j1 hq
      have j1 := h4.makes hq
      obtain ⟨rfl, -⟩ := hq
      cases s3 with
      | none =>
        simp only [strV] at P3
        have Q3 := Lib.hid fun w h => Faulted_any [] (.tuple #[.int .i64 0, .bool false]) (by rfl) w h (by decide)
        have hm : may n = false := by
          have := E3.out
          unfold faultW at this
          split at this
          · cases this
          · rename_i hc; simpa using hc
        by_cases hn0 : 0 ≤ n
        · have hn1 : 4611686018427387904 < n := by
            simp only [may, Bool.and_eq_false_iff, decide_eq_false_iff_not] at hm
            omega
          clear hm
          go_wp2_with fail
          refine (P3.out _ (hG.st j1)).mono ?_
          rintro e w_k1 hq
          have k1 := j1.makes hq
          obtain ⟨rfl, -⟩ := hq
          go_wp2_with fail
          refine (Q3.out _ (hG.st k1)).mono ?_
          rintro e w_k2 hq
          have k2 := k1.makes hq
          obtain ⟨rfl, -⟩ := hq
          go_wp2
          go_ret
          refine ⟨?_, k2.below⟩
          show Ending.returned (Value.bool _) = _
          exact ret_bool (by simp; try omega)
        · clear hm
          go_wp2_with fail
          refine (P3.out _ (hG.st j1)).mono ?_
          rintro e w_k1 hq
          have k1 := j1.makes hq
          obtain ⟨rfl, -⟩ := hq
          go_wp2_with fail
          refine (Q3.out _ (hG.st k1)).mono ?_
          rintro e w_k2 hq
          have k2 := k1.makes hq
          obtain ⟨rfl, -⟩ := hq
          go_wp2
          go_ret
          refine ⟨?_, k2.below⟩
          show Ending.returned (Value.bool _) = _
          exact ret_bool (by simp; try omega)
      | some s =>
        obtain ⟨m, hmn, hm2, hm3⟩ := faulted_fault E3.out
        subst hmn
        simp only [strV] at P3
        have hl := faultW_len E3.out
        have Q3 := Lib.hid fun w h => Faulted_any s (.tuple #[.int .i64 m, .bool true]) (by rw [hm2]; rfl) w h (by omega)
        clear hm2
        go_wp2_with fail
        refine (P3.out _ (hG.st j1)).mono ?_
        rintro e w_k1 hq
        have k1 := j1.makes hq
        obtain ⟨rfl, -⟩ := hq
        go_wp2_with fail
        refine (Q3.out _ (hG.st k1)).mono ?_
        rintro e w_k2 hq
        have k2 := k1.makes hq
        obtain ⟨rfl, -⟩ := hq
        go_wp2
        go_ret
        refine ⟨?_, k2.below⟩
        show Ending.returned (Value.bool _) = _
        exact ret_bool (by simp; try omega)
    | some s =>
      obtain ⟨m1, m2, ha, hb, hh⟩ := hear_told E2.out
      subst ha
      subst hb
      simp only [txtV] at P2
      have hl2 := toldW_len E2.out
      have Q2 := Lib.hid fun w h => Hear_any s (.tuple #[.agg #[.string ⟨t2.toArray⟩, .int .i64 m1, .int .i64 m2, .string ⟨d2.toArray⟩], .bool true]) (by rw [hh]; rfl) w h (by omega)
      clear hh
      go_wp2_with fail
      refine (P2.out _ (hG.st h4)).mono ?_
      rintro e w_j1 hq
      have j1 := h4.makes hq
      obtain ⟨rfl, -⟩ := hq
      go_wp2_with fail
      refine (Q2.out _ (hG.st j1)).mono ?_
      rintro e w_j2 hq
      have j2 := j1.makes hq
      obtain ⟨rfl, -⟩ := hq
      clear pa0 pa1 pa2 da0 da1 da2 da3 ca0 ca1 ca2
      have j3 := j2.alloc (.cells #[.string ⟨t2.toArray⟩, .int .i64 m1, .int .i64 m2, .string ⟨d2.toArray⟩] 25 (0, 0))
      have ra0 := j3.cell 0 rfl
      have ra1 := j3.cell 1 rfl
      have ra2 := j3.cell 2 rfl
      have ra3 := j3.cell 3 rfl
      have pa0 := j3.right.cell 0 rfl
      have pa1 := j3.right.cell 1 rfl
      have pa2 := j3.right.cell 2 rfl
      have da0 := j3.right.right.cell 0 rfl
      have da1 := j3.right.right.cell 1 rfl
      have da2 := j3.right.right.cell 2 rfl
      have da3 := j3.right.right.cell 3 rfl
      have ca0 := j3.right.right.right.cell 0 rfl
      have ca1 := j3.right.right.right.cell 1 rfl
      have ca2 := j3.right.right.right.cell 2 rfl
      cases s3 with
      | none =>
        simp only [strV] at P3
        have Q3 := Lib.hid fun w h => Faulted_any [] (.tuple #[.int .i64 0, .bool false]) (by rfl) w h (by decide)
        have hm : may n = false := by
          have := E3.out
          unfold faultW at this
          split at this
          · cases this
          · rename_i hc; simpa using hc
        by_cases hn0 : 0 ≤ n
        · have hn1 : 4611686018427387904 < n := by
            simp only [may, Bool.and_eq_false_iff, decide_eq_false_iff_not] at hm
            omega
          clear hm
          go_wp2_with fail
          refine (P3.out _ (hG.st j3)).mono ?_
          rintro e w_k1 hq
          have k1 := j3.makes hq
          obtain ⟨rfl, -⟩ := hq
          go_wp2_with fail
          refine (Q3.out _ (hG.st k1)).mono ?_
          rintro e w_k2 hq
          have k2 := k1.makes hq
          obtain ⟨rfl, -⟩ := hq
          go_wp2
          go_ret
          refine ⟨?_, k2.below⟩
          show Ending.returned (Value.bool _) = _
          exact ret_bool (by simp; try omega)
        · clear hm
          go_wp2_with fail
          refine (P3.out _ (hG.st j3)).mono ?_
          rintro e w_k1 hq
          have k1 := j3.makes hq
          obtain ⟨rfl, -⟩ := hq
          go_wp2_with fail
          refine (Q3.out _ (hG.st k1)).mono ?_
          rintro e w_k2 hq
          have k2 := k1.makes hq
          obtain ⟨rfl, -⟩ := hq
          go_wp2
          go_ret
          refine ⟨?_, k2.below⟩
          show Ending.returned (Value.bool _) = _
          exact ret_bool (by simp; try omega)
      | some s =>
        obtain ⟨m, hmn, hm2, hm3⟩ := faulted_fault E3.out
        subst hmn
        simp only [strV] at P3
        have hl := faultW_len E3.out
        have Q3 := Lib.hid fun w h => Faulted_any s (.tuple #[.int .i64 m, .bool true]) (by rw [hm2]; rfl) w h (by omega)
        clear hm2
        go_wp2_with fail
        refine (P3.out _ (hG.st j3)).mono ?_
        rintro e w_k1 hq
        have k1 := j3.makes hq
        obtain ⟨rfl, -⟩ := hq
        go_wp2_with fail
        refine (Q3.out _ (hG.st k1)).mono ?_
        rintro e w_k2 hq
        have k2 := k1.makes hq
        obtain ⟨rfl, -⟩ := hq
        go_wp2
        go_ret
        refine ⟨?_, k2.below⟩
        show Ending.returned (Value.bool _) = _
        exact ret_bool (by simp; try omega)

end Go.Proofs.YtjnkgblcfoblcaaDoor.WdB
