import Derived.Test.YtjnkgblcfoblcaaDoorWdL
namespace Go.Proofs.YtjnkgblcfoblcaaDoor.WdM
open Go Go.RowKit Go.Proofs Go.Proofs.YtjnkgblcfoblcaaDoor.Sep Go.Proofs.YtjnkgblcfoblcaaDoor.Reg Go.Proofs.YtjnkgblcfoblcaaDoor.Frame Go.Proofs.YtjnkgblcfoblcaaDoor.Strs Go.Proofs.YtjnkgblcfoblcaaDoor.WdP Go.Proofs.YtjnkgblcfoblcaaDoor.WdT Go.Proofs.YtjnkgblcfoblcaaDoor.WdN Go.Proofs.YtjnkgblcfoblcaaDoor.WdC Go.Proofs.YtjnkgblcfoblcaaDoor.WdD Go.Proofs.YtjnkgblcfoblcaaDoor.WdE Go.Proofs.YtjnkgblcfoblcaaDoor.WdF Go.Proofs.YtjnkgblcfoblcaaDoor.WdH Go.Proofs.YtjnkgblcfoblcaaDoor.WdL

theorem cmd_cases (s : List UInt8) : ∃ (k : Int) (t d : List UInt8) (b : Bool), rcmdV (parseW s) = .tuple #[.int .i64 k, .string ⟨t.toArray⟩, .string ⟨d.toArray⟩] ∧ cmdV (parseW s) = .tuple #[.agg #[.int .i64 k, .string ⟨t.toArray⟩, .string ⟨d.toArray⟩], .bool b] ∧ ((b = false ∧ k ≤ 0) ∨ (b = true ∧ 0 < k)) := by
  cases h : parseW s with
  | none => exact ⟨0, [], [], false, rfl, rfl, .inl ⟨rfl, by omega⟩⟩
  | some c =>
    obtain ⟨k, t, d⟩ := c
    have := (bytes_parse h).2.1
    exact ⟨k, t, d, true, rfl, rfl, .inr ⟨rfl, by omega⟩⟩
theorem del_cases (o : Option Del) : ∃ (t : List UInt8) (a b : Int) (d : List UInt8) (z : Bool), rdelV o = .tuple #[.string ⟨t.toArray⟩, .int .i64 a, .int .i64 b, .string ⟨d.toArray⟩, .bool z] ∧ delV o = .tuple #[.agg #[.string ⟨t.toArray⟩, .int .i64 a, .int .i64 b, .string ⟨d.toArray⟩], .bool z] := by
  cases o with
  | none => exact ⟨[], 0, 0, [], false, rfl, rfl⟩
  | some c => exact ⟨c.1, c.2.1, c.2.2.1, c.2.2.2, true, rfl, rfl⟩
theorem flt_cases (o : Option Nat) : ∃ (x y : Int) (z : Bool), intV o = .int .i64 x ∧ numV o = .tuple #[.int .i64 y, .bool z] ∧ ((z = false ∧ x < 0 ∧ 0 = y) ∨ (z = true ∧ 0 ≤ x ∧ x = y)) := by
  cases o with
  | none => exact ⟨-1, 0, false, rfl, rfl, .inl ⟨rfl, by omega, rfl⟩⟩
  | some n => exact ⟨n, n, true, rfl, rfl, .inr ⟨rfl, by omega, rfl⟩⟩

set_option maxRecDepth 100000 in
set_option maxHeartbeats 8000000 in
theorem read_law (s : List UInt8) (W : World) (hG : Gl W) : Calls Tryd.prog 4 #[.string ⟨s.toArray⟩] W (Makes W (.bool true)) := by
  have h0 := St.start W
  go_enter Tryd.func4, Tryd.ntmps4
  go_wp2_with fail
  refine (awake_any _ (hG.st h0)).mono ?_
  rintro e w1 hq
  have h1 := h0.makes hq
  obtain ⟨rfl, -⟩ := hq
  by_cases hs : 5000 < s.length
  · go_wp2
    go_ret
    exact ⟨rfl, h1.below⟩
  have gC := guardC
  have gD := guardD
  obtain ⟨k, t, d, b, e1, e2, e3⟩ := cmd_cases s
  have R1 := Lib.hid fun w => rParse_any s _ e1 w (by omega)
  have P1 := Lib.hid fun w h => Parse_any s _ e2 w h (by omega)
  obtain ⟨t2, a2, b2, d2, z2, e4, e5⟩ := del_cases (hearW s)
  have R2 := Lib.hid fun w => rHear_any s _ e4 w (by omega)
  have P2 := Lib.hid fun w h => Hear_any s _ e5 w h (by omega)
  obtain ⟨x, y, z, e6, e7, e8⟩ := flt_cases (faultedW s)
  have R3 := Lib.hid fun w => rFaulted_any s _ e6 w (by omega)
  have P3 := Lib.hid fun w h => Faulted_any s _ e7 w h (by omega)
  have nC := neq_cmd k t d
  have nD := neq_del t2 a2 b2 d2
  obtain ⟨tp, htp⟩ : ∃ tp, topic s = tp := ⟨_, rfl⟩
  have R4 := Lib.hid fun w => (rTopic_any s w (by omega)).mono fun e w' h => h.eq (v := .bool tp) (by rw [htp])
  have P4 := Lib.hid fun w => (Topic_any s w (by omega)).mono fun e w' h => h.eq (v := .bool tp) (by rw [htp])
  clear e1 e2 e4 e5 e6 e7 htp
  rcases e3 with ⟨rfl, hk⟩ | ⟨rfl, hk⟩
  all_goals
    rcases e8 with ⟨rfl, hx, rfl⟩ | ⟨rfl, hx, rfl⟩
    all_goals
      go_wp2_with fail
      refine (R1.out _).mono ?_
      rintro e w2 hq
      have h2 := h1.quiet hq
      obtain ⟨rfl, -⟩ := hq
      go_wp2_with fail
      refine (P1.out _ (hG.st h2)).mono ?_
      rintro e w_h3 hq
      have h3 := h2.makes hq
      obtain ⟨rfl, -⟩ := hq
      have h4 := h3.alloc (.cells #[.int .i64 k, .string ⟨t.toArray⟩, .string ⟨d.toArray⟩] 23 (0, 0))
      have ca0 := h4.cell 0 rfl
      have ca1 := h4.cell 1 rfl
      have ca2 := h4.cell 2 rfl
      go_wp2_with fail
      refine (R2.out _).mono ?_
      rintro e w5 hq
      have h5 := h4.quiet hq
      obtain ⟨rfl, -⟩ := hq
      go_wp2_with fail
      refine (P2.out _ (hG.st h5)).mono ?_
      rintro e w_h6 hq
      have h6 := h5.makes hq
      obtain ⟨rfl, -⟩ := hq
      clear ca0 ca1 ca2
      have h7 := h6.alloc (.cells #[.string ⟨t2.toArray⟩, .int .i64 a2, .int .i64 b2, .string ⟨d2.toArray⟩] 25 (0, 0))
      have da0 := h7.cell 0 rfl
      have da1 := h7.cell 1 rfl
      have da2 := h7.cell 2 rfl
      have da3 := h7.cell 3 rfl
      go_wp2_with fail
      refine (R3.out _).mono ?_
      rintro e w8 hq
      have h8 := h7.quiet hq
      obtain ⟨rfl, -⟩ := hq
      go_wp2_with fail
      refine (P3.out _ (hG.st h8)).mono ?_
      rintro e w_h9 hq
      have h9 := h8.makes hq
      obtain ⟨rfl, -⟩ := hq
      first
        | (have hmx : max x 0 = 0 := by omega
           have hge : decide (0 ≤ x) = false := decide_eq_false (by omega))
        | (have hmx : max x 0 = x := by omega
           have hge : decide (0 ≤ x) = true := decide_eq_true (by omega))
      clear hx
      clear nC nD gC gD P1 R1 P2 R2 P3 R3
      go_wp2_with fail
      refine (P4.out _).mono ?_
      rintro e w' ⟨rfl, rfl⟩
      go_wp2_with fail
      refine (R4.out _).mono ?_
      rintro e w' ⟨rfl, rfl⟩
      go_wp2
      go_ret
      exact ⟨rfl, h9.below⟩
theorem txt_cases (o : Option (List UInt8)) : ∃ (s : List UInt8) (z : Bool), txtV o = .tuple #[.string ⟨s.toArray⟩, .bool z] := by
  cases o with
  | none => exact ⟨[], false, rfl⟩
  | some s => exact ⟨s, true, rfl⟩
theorem str_cases (o : Option (List UInt8)) : ∃ (s : List UInt8), strV o = .string ⟨s.toArray⟩ := by
  cases o with
  | none => exact ⟨[], rfl⟩
  | some s => exact ⟨s, rfl⟩

set_option maxRecDepth 100000 in
set_option maxHeartbeats 8000000 in
theorem write_law (k : Int) (t d t2 : List UInt8) (a b : Int) (d2 : List UInt8) (n : Int) (W : World) (hG : Gl W) :
    Calls Tryd.prog 3 #[.agg #[.int .i64 k, .string ⟨t.toArray⟩, .string ⟨d.toArray⟩], .agg #[.string ⟨t2.toArray⟩, .int .i64 a, .int .i64 b, .string ⟨d2.toArray⟩], .int .i64 n] W (Makes W (.bool true)) := by
  have h0 := ((St.start W).alloc (.cells #[.int .i64 k, .string ⟨t.toArray⟩, .string ⟨d.toArray⟩] 23 (0, 0))).alloc (.cells #[.string ⟨t2.toArray⟩, .int .i64 a, .int .i64 b, .string ⟨d2.toArray⟩] 25 (0, 0))
  rw [alloc_size] at h0
  go_enter Tryd.func3, Tryd.ntmps3
  go_wp2_with fail
  refine (awake_any _ (hG.st h0)).mono ?_
  rintro e w1 hq
  have h1 := h0.makes hq
  obtain ⟨rfl, -⟩ := hq
  have da0 := h1.cell 0 rfl
  have da1 := h1.cell 1 rfl
  have da2 := h1.cell 2 rfl
  have da3 := h1.cell 3 rfl
  have ca0 := h1.right.cell 0 rfl
  have ca1 := h1.right.cell 1 rfl
  have ca2 := h1.right.cell 2 rfl
  by_cases hs_t : 5000 < t.length
  · go_wp2
    go_ret
    exact ⟨rfl, h1.below⟩
  by_cases hs_d : 5000 < d.length
  · go_wp2
    go_ret
    exact ⟨rfl, h1.below⟩
  by_cases hs_t2 : 5000 < t2.length
  · go_wp2
    go_ret
    exact ⟨rfl, h1.below⟩
  by_cases hs_d2 : 5000 < d2.length
  · go_wp2
    go_ret
    exact ⟨rfl, h1.below⟩
  obtain ⟨s1, z1, e1⟩ := txt_cases (bytesW k t d)
  have P1 := Lib.hid fun w => Bytes_any k t d _ e1 w (by omega) (by omega)
  have R1 := Lib.hid fun w => rBytes_any k t d _ e1 w (by omega) (by omega)
  obtain ⟨s2, z2, e2⟩ := txt_cases (toldW t2 a b d2)
  have P2 := Lib.hid fun w h => Told_any t2 a b d2 _ e2 w h (by omega) (by omega)
  have R2 := Lib.hid fun w => rTold_any t2 a b d2 _ e2 w (by omega) (by omega)
  obtain ⟨s3, e3⟩ := str_cases (faultW n)
  have P3 := Lib.hid fun w h => Fault_any n _ e3 w h
  have R3 := Lib.hid fun w => rFault_any n _ e3 w
  clear e1 e2 e3
  go_wp2_with fail
  refine (P1.out _).mono ?_
  rintro e w_h2 hq
  have h2 := h1.makes hq
  obtain ⟨rfl, -⟩ := hq
  clear da0 da1 da2 da3 ca0 ca1 ca2
  have da0 := h2.cell 0 rfl
  have da1 := h2.cell 1 rfl
  have da2 := h2.cell 2 rfl
  have da3 := h2.cell 3 rfl
  have ca0 := h2.right.cell 0 rfl
  have ca1 := h2.right.cell 1 rfl
  have ca2 := h2.right.cell 2 rfl
  go_wp2_with fail
  refine (R1.out _).mono ?_
  rintro e w' ⟨rfl, rfl⟩
  go_wp2_with fail
  refine (P2.out _ (hG.st h2)).mono ?_
  rintro e w_h3 hq
  have h3 := h2.makes hq
  obtain ⟨rfl, -⟩ := hq
  clear da0 da1 da2 da3 ca0 ca1 ca2
  have da0 := h3.cell 0 rfl
  have da1 := h3.cell 1 rfl
  have da2 := h3.cell 2 rfl
  have da3 := h3.cell 3 rfl
  have ca0 := h3.right.cell 0 rfl
  have ca1 := h3.right.cell 1 rfl
  have ca2 := h3.right.cell 2 rfl
  go_wp2_with fail
  refine (R2.out _).mono ?_
  rintro e w_h4 hq
  have h4 := h3.makes hq
  obtain ⟨rfl, -⟩ := hq
  clear da0 da1 da2 da3 ca0 ca1 ca2
  have da0 := h4.cell 0 rfl
  have da1 := h4.cell 1 rfl
  have da2 := h4.cell 2 rfl
  have da3 := h4.cell 3 rfl
  have ca0 := h4.right.cell 0 rfl
  have ca1 := h4.right.cell 1 rfl
  have ca2 := h4.right.cell 2 rfl
  go_wp2_with fail
  refine (P3.out _ (hG.st h4)).mono ?_
  rintro e w_h5 hq
  have h5 := h4.makes hq
  obtain ⟨rfl, -⟩ := hq
  go_wp2_with fail
  refine (R3.out _).mono ?_
  rintro e w_h6 hq
  have h6 := h5.makes hq
  obtain ⟨rfl, -⟩ := hq
  go_wp2
  go_ret
  exact ⟨rfl, h6.below⟩


end Go.Proofs.YtjnkgblcfoblcaaDoor.WdM
