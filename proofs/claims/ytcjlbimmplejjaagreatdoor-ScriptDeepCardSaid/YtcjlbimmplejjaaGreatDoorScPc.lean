import Derived.Test.YtcjlbimmplejjaaGreatDoorScPb
namespace Go.Proofs.YtcjlbimmplejjaaGreatDoor.ScPc
open Go Go.RowKit Go.Proofs Go.Proofs.YtcjlbimmplejjaaGreatDoor.Sep Go.Proofs.YtcjlbimmplejjaaGreatDoor.Reg Go.Proofs.YtcjlbimmplejjaaGreatDoor.Fork Go.Proofs.YtcjlbimmplejjaaGreatDoor.Held Go.Proofs.YtcjlbimmplejjaaGreatDoor.Frame Go.Proofs.YtcjlbimmplejjaaGreatDoor.WdP Go.Proofs.YtcjlbimmplejjaaGreatDoor.WdT Go.Proofs.YtcjlbimmplejjaaGreatDoor.ScP Go.Proofs.YtcjlbimmplejjaaGreatDoor.ScB Go.Proofs.YtcjlbimmplejjaaGreatDoor.ScI Go.Proofs.YtcjlbimmplejjaaGreatDoor.ScJ Go.Proofs.YtcjlbimmplejjaaGreatDoor.ScM Go.Proofs.YtcjlbimmplejjaaGreatDoor.ScW Go.Proofs.YtcjlbimmplejjaaGreatDoor.ScNu Go.Proofs.YtcjlbimmplejjaaGreatDoor.ScR Go.Proofs.YtcjlbimmplejjaaGreatDoor.ScPa Go.Proofs.YtcjlbimmplejjaaGreatDoor.ScPb

theorem word_parts {x : Ac} {e : Tx × Shp} (hk : kin x.k = some e) (hr : rightA x = true) : wordA x = shW x.k ++ ((if shC x.k then 32 :: Lib.decDigits x.c.toNat else []) ++ ((if shS x.k then 32 :: quote x.s else []) ++ (if 0 ≤ shN x.k then 32 :: Lib.decDigits x.n.toNat else []))) ∧
    (shC x.k = true → 0 ≤ x.c ∧ x.c < 8) ∧ (shS x.k = true → x.s.length ≤ 4096) ∧ (0 ≤ shN x.k → 0 ≤ x.n ∧ x.n ≤ shN x.k) := by
  unfold rightA at hr
  rw [hk] at hr
  unfold wordA shW shC shS shN
  simp only [hk]
  simp only [Bool.and_eq_true] at hr
  obtain ⟨⟨h1, h2⟩, h3⟩ := hr
  obtain ⟨w, k, c, s, m⟩ := e
  simp only at h1 h2 h3 ⊢
  have hc : c = true → 0 ≤ x.c ∧ x.c < 8 := fun h => by subst h; exact of_decide_eq_true h1
  have hs : s = true → x.s.length ≤ 4096 := fun h => by subst h; exact of_decide_eq_true h2
  refine ⟨?_, hc, hs, ?_⟩
  · have e1 : (if c = true then 32 :: Lib.itoa x.c else ([] : Tx)) = if c = true then 32 :: Lib.decDigits x.c.toNat else [] := by
      cases c with
      | false => rfl
      | true => rw [if_pos rfl, if_pos rfl, itoa_nat (hc rfl).1]
    rw [e1]
    cases m with
    | none => rfl
    | some m =>
      simp only [nPart]
      rw [if_pos (Int.natCast_nonneg m), itoa_nat (of_decide_eq_true h3).1]
  · cases m with
    | none => intro h; exact absurd h (by decide)
    | some m => exact fun _ => of_decide_eq_true h3
theorem quote_len {s : Tx} (h : s.length ≤ 4096) : (quote s).length ≤ 16400 := by
  have := flat_len s
  unfold quote
  rw [List.length_cons, List.length_append, List.length_singleton]; omega
theorem dec_len10 (n : Nat) (h : n ≤ 4000000000) : (Lib.decDigits n).length ≤ 21 := by
  have := Lib.itoa_length_le (n : Int) (by omega) (by omega)
  rwa [Lib.itoa_nonneg] at this
theorem shW_len {k : Nat} {e : Tx × Shp} (h : kin k = some e) : (shW k).length ≤ 20 := by
  have := shps_len (kin_mem h).1
  unfold shW; rw [h]; exact Nat.le_trans this (by omega)
def AC (xk : Nat) (xc xn : Int) (xs : Tx) : Obj := .cells #[.int .u8 (xk : Nat), .int .i64 xc, .int .i64 xn, .string ⟨xs.toArray⟩] 34 (0, 0)
set_option maxRecDepth 100000 in
set_option maxHeartbeats 16000000 in
theorem rLine_any (x : Ac) (hr : rightA x = true) {W w : World} {R : Asn} (h : St W w R) : Calls Tryz.prog 39 #[.agg #[.int .u8 (x.k : Nat), .int .i64 x.c, .int .i64 x.n, .string ⟨x.s.toArray⟩]] w fun e w' => e = .returned (.string ⟨(wordA x ++ [10]).toArray⟩) ∧ St W w' R := by
  obtain ⟨e, hk⟩ : ∃ e, kin x.k = some e := by
    cases h : kin x.k with
    | none => unfold rightA at hr; rw [h] at hr; cases hr
    | some e => exact ⟨e, rfl⟩
  obtain ⟨hwp, hbc, hbs, hbn⟩ := word_parts hk hr
  obtain ⟨xk, xc, xn, xs⟩ := x
  simp only at hwp hbc hbs hbn hk
  have h1 := h.alloc (.cells #[.int .u8 (xk : Nat), .int .i64 xc, .int .i64 xn, .string ⟨xs.toArray⟩] 34 (0, 0))
  obtain ⟨xb, hxb⟩ : ∃ z, w.heap.size = z := ⟨_, rfl⟩
  rw [hxb] at h1
  have c0 := h1.cell 0 (v := .int .u8 (xk : Nat)) rfl
  have HSp := Lib.hid (Shape_any xk (w.alloc (.cells #[.int .u8 (xk : Nat), .int .i64 xc, .int .i64 xn, .string ⟨xs.toArray⟩] 34 (0, 0))))
  have hsc := sh_cases hk
  have hwl := shW_len hk
  obtain ⟨WA, hWA⟩ : ∃ z, wordA ⟨xk, xc, xn, xs⟩ = z := ⟨_, rfl⟩
  rw [hWA] at hwp ⊢
  unfold shT at HSp
  generalize shW xk = sw at *
  generalize shC xk = sc at *
  generalize shS xk = ss at *
  generalize shN xk = sn at *
  have H1 := Lib.hid h1
  clear h hk hr h1 hWA
  go_enter Tryz.func39, Tryz.ntmps39
  go_wp2_with fail
  refine HSp.out.mono ?_
  rintro e w2 ⟨rfl, rfl⟩
  generalize w.alloc (.cells #[.int .u8 (xk : Nat), .int .i64 xc, .int .i64 xn, .string ⟨xs.toArray⟩] 34 (0, 0)) = w2 at *
  clear HSp c0 hxb
  rcases hsc with ⟨rfl, rfl, rfl⟩ | ⟨rfl, rfl, rfl⟩ | ⟨rfl, rfl, rfl⟩ | ⟨rfl, rfl, hn1, hn2⟩ | ⟨rfl, rfl, hn1, hn2⟩
  · skip
    have HWP := Lib.hid hwp
    have hS := H1.out
    clear hbc hbs hbn hwp H1
    have ha0 := run_str_add (P := Tryz.prog) sw [10] (by first | omega | (simp; omega))
    have HFin : Hid (sw ++ [10] = WA ++ [10]) := Lib.hid (by rw [HWP.out]; simp)
    have HS := Lib.hid hS.right
    clear hS
    go_wp2
    go_ret
    exact ⟨by rw [← HFin.out]; rfl, HS.out⟩
  · skip
    obtain ⟨hc1, hc2⟩ := hbc rfl
    obtain ⟨cn, rfl⟩ := Int.eq_ofNat_of_zero_le hc1
    have hs1 := hbs rfl
    have HWP := Lib.hid hwp
    have hS := H1.out
    clear hbc hbs hbn hwp H1
    obtain ⟨D0, hD0⟩ : ∃ z, Lib.decDigits cn = z := ⟨_, rfl⟩
    have hl0 := dec_len10 cn (by omega)
    rw [hD0] at hl0
    have HD0 := Lib.hid hD0
    obtain ⟨D1, hD1⟩ : ∃ z, quote xs = z := ⟨_, rfl⟩
    have hl1 := quote_len hs1
    rw [hD1] at hl1
    have HD1 := Lib.hid hD1
    have ha0 := run_str_add (P := Tryz.prog) sw [32] (by first | omega | (simp; omega))
    obtain ⟨T0, hT0⟩ : ∃ z, sw ++ [32] = z := ⟨_, rfl⟩
    rw [hT0] at ha0
    have hb0 : T0.length ≤ 16520 := by rw [← hT0]; simp; omega
    have HT0 := Lib.hid hT0
    have ha1 := run_str_add (P := Tryz.prog) T0 D0 (by first | omega | (simp; omega))
    obtain ⟨T1, hT1⟩ : ∃ z, T0 ++ D0 = z := ⟨_, rfl⟩
    rw [hT1] at ha1
    have hb1 : T1.length ≤ 33020 := by rw [← hT1]; simp; omega
    have HT1 := Lib.hid hT1
    have ha2 := run_str_add (P := Tryz.prog) T1 [32] (by first | omega | (simp; omega))
    obtain ⟨T2, hT2⟩ : ∃ z, T1 ++ [32] = z := ⟨_, rfl⟩
    rw [hT2] at ha2
    have hb2 : T2.length ≤ 49520 := by rw [← hT2]; simp; omega
    have HT2 := Lib.hid hT2
    have ha3 := run_str_add (P := Tryz.prog) T2 D1 (by first | omega | (simp; omega))
    obtain ⟨T3, hT3⟩ : ∃ z, T2 ++ D1 = z := ⟨_, rfl⟩
    rw [hT3] at ha3
    have hb3 : T3.length ≤ 66020 := by rw [← hT3]; simp; omega
    have HT3 := Lib.hid hT3
    have ha4 := run_str_add (P := Tryz.prog) T3 [10] (by first | omega | (simp; omega))
    have HFin : Hid (T3 ++ [10] = WA ++ [10]) := Lib.hid (by rw [← HT3.out, ← HT2.out, ← HT1.out, ← HT0.out, ← HD0.out, ← HD1.out, HWP.out]; simp)
    clear hD0
    clear hD1
    clear hT0
    clear hT1
    clear hT2
    clear hT3
    have k0 := hS.cell 1 (v := .int .i64 (cn : Nat)) rfl
    have HCall := Lib.hid (digits_any cn (by omega) _ _ _ hS)
    rw [HD0.out] at HCall
    clear hS
    go_wp2_with fail
    refine HCall.out.mono ?_
    rintro e w5 ⟨rfl, hS⟩
    clear HCall k0
    have k1 := hS.cell 3 (v := .string ⟨xs.toArray⟩) rfl
    have HCall := Lib.hid (rQuote_any xs (by omega) hS)
    rw [HD1.out] at HCall
    clear hS
    go_wp2_with fail
    refine HCall.out.mono ?_
    rintro e w6 ⟨rfl, hS⟩
    clear HCall k1
    have HS := Lib.hid hS.right
    clear hS
    go_wp2
    go_ret
    exact ⟨by rw [← HFin.out]; rfl, HS.out⟩
  · skip
    obtain ⟨hc1, hc2⟩ := hbc rfl
    obtain ⟨cn, rfl⟩ := Int.eq_ofNat_of_zero_le hc1
    have HWP := Lib.hid hwp
    have hS := H1.out
    clear hbc hbs hbn hwp H1
    obtain ⟨D0, hD0⟩ : ∃ z, Lib.decDigits cn = z := ⟨_, rfl⟩
    have hl0 := dec_len10 cn (by omega)
    rw [hD0] at hl0
    have HD0 := Lib.hid hD0
    have ha0 := run_str_add (P := Tryz.prog) sw [32] (by first | omega | (simp; omega))
    obtain ⟨T0, hT0⟩ : ∃ z, sw ++ [32] = z := ⟨_, rfl⟩
    rw [hT0] at ha0
    have hb0 : T0.length ≤ 16520 := by rw [← hT0]; simp; omega
    have HT0 := Lib.hid hT0
    have ha1 := run_str_add (P := Tryz.prog) T0 D0 (by first | omega | (simp; omega))
    obtain ⟨T1, hT1⟩ : ∃ z, T0 ++ D0 = z := ⟨_, rfl⟩
    rw [hT1] at ha1
    have hb1 : T1.length ≤ 33020 := by rw [← hT1]; simp; omega
    have HT1 := Lib.hid hT1
    have ha2 := run_str_add (P := Tryz.prog) T1 [10] (by first | omega | (simp; omega))
    have HFin : Hid (T1 ++ [10] = WA ++ [10]) := Lib.hid (by rw [← HT1.out, ← HT0.out, ← HD0.out, HWP.out]; simp)
    clear hD0
    clear hT0
    clear hT1
    have k0 := hS.cell 1 (v := .int .i64 (cn : Nat)) rfl
    have HCall := Lib.hid (digits_any cn (by omega) _ _ _ hS)
    rw [HD0.out] at HCall
    clear hS
    go_wp2_with fail
    refine HCall.out.mono ?_
    rintro e w5 ⟨rfl, hS⟩
    clear HCall k0
    have HS := Lib.hid hS.right
    clear hS
    go_wp2
    go_ret
    exact ⟨by rw [← HFin.out]; rfl, HS.out⟩
  · skip
    obtain ⟨hc1, hc2⟩ := hbc rfl
    obtain ⟨cn, rfl⟩ := Int.eq_ofNat_of_zero_le hc1
    obtain ⟨hn3, hn4⟩ := hbn hn1
    obtain ⟨nn, rfl⟩ := Int.eq_ofNat_of_zero_le hn3
    have HWP := Lib.hid hwp
    have hS := H1.out
    clear hbc hbs hbn hwp H1
    obtain ⟨D0, hD0⟩ : ∃ z, Lib.decDigits cn = z := ⟨_, rfl⟩
    have hl0 := dec_len10 cn (by omega)
    rw [hD0] at hl0
    have HD0 := Lib.hid hD0
    obtain ⟨D1, hD1⟩ : ∃ z, Lib.decDigits nn = z := ⟨_, rfl⟩
    have hl1 := dec_len10 nn (by omega)
    rw [hD1] at hl1
    have HD1 := Lib.hid hD1
    have ha0 := run_str_add (P := Tryz.prog) sw [32] (by first | omega | (simp; omega))
    obtain ⟨T0, hT0⟩ : ∃ z, sw ++ [32] = z := ⟨_, rfl⟩
    rw [hT0] at ha0
    have hb0 : T0.length ≤ 16520 := by rw [← hT0]; simp; omega
    have HT0 := Lib.hid hT0
    have ha1 := run_str_add (P := Tryz.prog) T0 D0 (by first | omega | (simp; omega))
    obtain ⟨T1, hT1⟩ : ∃ z, T0 ++ D0 = z := ⟨_, rfl⟩
    rw [hT1] at ha1
    have hb1 : T1.length ≤ 33020 := by rw [← hT1]; simp; omega
    have HT1 := Lib.hid hT1
    have ha2 := run_str_add (P := Tryz.prog) T1 [32] (by first | omega | (simp; omega))
    obtain ⟨T2, hT2⟩ : ∃ z, T1 ++ [32] = z := ⟨_, rfl⟩
    rw [hT2] at ha2
    have hb2 : T2.length ≤ 49520 := by rw [← hT2]; simp; omega
    have HT2 := Lib.hid hT2
    have ha3 := run_str_add (P := Tryz.prog) T2 D1 (by first | omega | (simp; omega))
    obtain ⟨T3, hT3⟩ : ∃ z, T2 ++ D1 = z := ⟨_, rfl⟩
    rw [hT3] at ha3
    have hb3 : T3.length ≤ 66020 := by rw [← hT3]; simp; omega
    have HT3 := Lib.hid hT3
    have ha4 := run_str_add (P := Tryz.prog) T3 [10] (by first | omega | (simp; omega))
    have HFin : Hid (T3 ++ [10] = WA ++ [10]) := Lib.hid (by rw [← HT3.out, ← HT2.out, ← HT1.out, ← HT0.out, ← HD0.out, ← HD1.out, HWP.out]; simp [hn1])
    have hge : sn ≥ 0 := hn1
    clear hD0
    clear hD1
    clear hT0
    clear hT1
    clear hT2
    clear hT3
    have k0 := hS.cell 1 (v := .int .i64 (cn : Nat)) rfl
    have HCall := Lib.hid (digits_any cn (by omega) _ _ _ hS)
    rw [HD0.out] at HCall
    clear hS
    go_wp2_with fail
    refine HCall.out.mono ?_
    rintro e w5 ⟨rfl, hS⟩
    clear HCall k0
    have k1 := hS.cell 2 (v := .int .i64 (nn : Nat)) rfl
    have HCall := Lib.hid (digits_any nn (by omega) _ _ _ hS)
    rw [HD1.out] at HCall
    clear hS
    go_wp2_with fail
    refine HCall.out.mono ?_
    rintro e w6 ⟨rfl, hS⟩
    clear HCall k1
    have HS := Lib.hid hS.right
    clear hS
    go_wp2
    go_ret
    exact ⟨by rw [← HFin.out]; rfl, HS.out⟩
  · skip
    obtain ⟨hn3, hn4⟩ := hbn hn1
    obtain ⟨nn, rfl⟩ := Int.eq_ofNat_of_zero_le hn3
    have HWP := Lib.hid hwp
    have hS := H1.out
    clear hbc hbs hbn hwp H1
    obtain ⟨D0, hD0⟩ : ∃ z, Lib.decDigits nn = z := ⟨_, rfl⟩
    have hl0 := dec_len10 nn (by omega)
    rw [hD0] at hl0
    have HD0 := Lib.hid hD0
    have ha0 := run_str_add (P := Tryz.prog) sw [32] (by first | omega | (simp; omega))
    obtain ⟨T0, hT0⟩ : ∃ z, sw ++ [32] = z := ⟨_, rfl⟩
    rw [hT0] at ha0
    have hb0 : T0.length ≤ 16520 := by rw [← hT0]; simp; omega
    have HT0 := Lib.hid hT0
    have ha1 := run_str_add (P := Tryz.prog) T0 D0 (by first | omega | (simp; omega))
    obtain ⟨T1, hT1⟩ : ∃ z, T0 ++ D0 = z := ⟨_, rfl⟩
    rw [hT1] at ha1
    have hb1 : T1.length ≤ 33020 := by rw [← hT1]; simp; omega
    have HT1 := Lib.hid hT1
    have ha2 := run_str_add (P := Tryz.prog) T1 [10] (by first | omega | (simp; omega))
    have HFin : Hid (T1 ++ [10] = WA ++ [10]) := Lib.hid (by rw [← HT1.out, ← HT0.out, ← HD0.out, HWP.out]; simp [hn1])
    have hge : sn ≥ 0 := hn1
    clear hD0
    clear hT0
    clear hT1
    have k0 := hS.cell 2 (v := .int .i64 (nn : Nat)) rfl
    have HCall := Lib.hid (digits_any nn (by omega) _ _ _ hS)
    rw [HD0.out] at HCall
    clear hS
    go_wp2_with fail
    refine HCall.out.mono ?_
    rintro e w5 ⟨rfl, hS⟩
    clear HCall k0
    have HS := Lib.hid hS.right
    clear hS
    go_wp2
    go_ret
    exact ⟨by rw [← HFin.out]; rfl, HS.out⟩
end Go.Proofs.YtcjlbimmplejjaaGreatDoor.ScPc
