import Derived.Test.YtjnkgblcfoblcaaDoorWdO
namespace Go.Proofs.YtjnkgblcfoblcaaDoor.WdY
open Go Go.RowKit Go.Proofs Go.Proofs.YtjnkgblcfoblcaaDoor.Sep Go.Proofs.YtjnkgblcfoblcaaDoor.Reg Go.Proofs.YtjnkgblcfoblcaaDoor.Frame Go.Proofs.YtjnkgblcfoblcaaDoor.Strs Go.Proofs.YtjnkgblcfoblcaaDoor.WdP Go.Proofs.YtjnkgblcfoblcaaDoor.WdT Go.Proofs.YtjnkgblcfoblcaaDoor.WdN Go.Proofs.YtjnkgblcfoblcaaDoor.WdC Go.Proofs.YtjnkgblcfoblcaaDoor.WdD Go.Proofs.YtjnkgblcfoblcaaDoor.WdE Go.Proofs.YtjnkgblcfoblcaaDoor.WdF Go.Proofs.YtjnkgblcfoblcaaDoor.WdH Go.Proofs.YtjnkgblcfoblcaaDoor.WdL Go.Proofs.YtjnkgblcfoblcaaDoor.WdM

set_option maxRecDepth 100000 in
set_option maxHeartbeats 16000000 in
theorem bytes_law (c : UInt8) (s : List UInt8) (W : World) (hG : Gl W) : Calls Tryd.prog 5 #[.int .u8 c.toNat, .string ⟨s.toArray⟩] W (Makes W (.bool true)) := by
  have h0 := St.start W
  go_enter Tryd.func5, Tryd.ntmps5
  go_wp2_with fail
  refine (awake_any _ (hG.st h0)).mono ?_
  rintro e w1 hq
  have h1 := h0.makes hq
  obtain ⟨rfl, -⟩ := hq
  by_cases hs : 200 < s.length
  · go_wp2
    go_ret
    exact ⟨rfl, h1.below⟩
  have hc0 := run_string_one (P := Tryd.prog) 46 9 5 Tryd.underlying46 Tryd.underlying5 Tryd.underlying9 w1 w1.heap.size rfl (c.toNat : Int) c.toNat rfl c.toNat_lt (0, 0)
  have hcc : UInt8.ofNat c.toNat = c := by simp
  rw [hcc] at hc0
  clear hcc
  have h2 := h1.alloc (.cells #[.int .u8 (c.toNat : Int)] 5 (0, 0))
  have a1 := run_str_add (P := Tryd.prog) [83, 85, 66, 32] [c] (by simp)
  have b1 := run_str_add (P := Tryd.prog) [85, 78, 83, 85, 66, 32, 97] [c] (by simp)
  have c1 := run_str_add (P := Tryd.prog) [80, 85, 66, 32, 97] [c] (by simp)
  have c2 := run_str_add (P := Tryd.prog) [80, 85, 66, 32, 97, c] s (by simp; omega)
  have d1 := run_str_add (P := Tryd.prog) [80, 85, 66] [c] (by simp)
  have d2 := run_str_add (P := Tryd.prog) [80, 85, 66, c] [97, 32] (by simp)
  have d3 := run_str_add (P := Tryd.prog) [80, 85, 66, c, 97, 32] s (by simp; omega)
  have e1 := run_str_add (P := Tryd.prog) [77, 83, 71, 32, 97] [c] (by simp)
  have e2 := run_str_add (P := Tryd.prog) [77, 83, 71, 32, 97, c] [49, 32, 50, 32] (by simp)
  have e3 := run_str_add (P := Tryd.prog) [77, 83, 71, 32, 97, c, 49, 32, 50, 32] s (by simp; omega)
  have f1 := run_str_add (P := Tryd.prog) [77, 83, 71, 32, 97, 32, 49] [c] (by simp)
  have f2 := run_str_add (P := Tryd.prog) [77, 83, 71, 32, 97, 32, 49, c] [32, 50] (by simp)
  have f3 := run_str_add (P := Tryd.prog) [77, 83, 71, 32, 97, 32, 49, c, 32, 50] [c] (by simp)
  have f4 := run_str_add (P := Tryd.prog) [77, 83, 71, 32, 97, 32, 49, c, 32, 50, c] s (by simp; omega)
  have g1 := run_str_add (P := Tryd.prog) [69, 82, 82, 32, 49] [c] (by simp)
  have i1 := run_str_add (P := Tryd.prog) [c] s (by simp; omega)
  simp only [List.cons_append, List.nil_append] at a1 b1 c1 c2 d1 d2 d3 e1 e2 e3 f1 f2 f3 f4 g1 i1
  have HR := Lib.hid fun s w h => read_law s w h
  go_wp2_with fail
  refine (HR.out [83, 85, 66, 32, c] _ (hG.st h2)).mono ?_
  rintro e w3 hq
  have h3 := h2.makes hq
  obtain ⟨rfl, -⟩ := hq
  go_wp2_with fail
  refine (HR.out [85, 78, 83, 85, 66, 32, 97, c] _ (hG.st h3)).mono ?_
  rintro e w4 hq
  have h4 := h3.makes hq
  obtain ⟨rfl, -⟩ := hq
  go_wp2_with fail
  refine (HR.out (80 :: 85 :: 66 :: 32 :: 97 :: c :: s) _ (hG.st h4)).mono ?_
  rintro e w5 hq
  have h5 := h4.makes hq
  obtain ⟨rfl, -⟩ := hq
  go_wp2_with fail
  refine (HR.out (80 :: 85 :: 66 :: c :: 97 :: 32 :: s) _ (hG.st h5)).mono ?_
  rintro e w6 hq
  have h6 := h5.makes hq
  obtain ⟨rfl, -⟩ := hq
  go_wp2_with fail
  refine (HR.out (77 :: 83 :: 71 :: 32 :: 97 :: c :: 49 :: 32 :: 50 :: 32 :: s) _ (hG.st h6)).mono ?_
  rintro e w7 hq
  have h7 := h6.makes hq
  obtain ⟨rfl, -⟩ := hq
  go_wp2_with fail
  refine (HR.out (77 :: 83 :: 71 :: 32 :: 97 :: 32 :: 49 :: c :: 32 :: 50 :: c :: s) _ (hG.st h7)).mono ?_
  rintro e w8 hq
  have h8 := h7.makes hq
  obtain ⟨rfl, -⟩ := hq
  go_wp2_with fail
  refine (HR.out [69, 82, 82, 32, 49, c] _ (hG.st h8)).mono ?_
  rintro e w9 hq
  have h9 := h8.makes hq
  obtain ⟨rfl, -⟩ := hq
  go_wp2_with fail
  refine (HR.out (c :: s) _ (hG.st h9)).mono ?_
  rintro e w10 hq
  have h10 := h9.makes hq
  obtain ⟨rfl, -⟩ := hq
  go_wp2
  go_ret
  exact ⟨rfl, h10.below⟩

/-! ### The chapter's examples -/
theorem Repeat_any (n : Nat) (l : List UInt8) (hl : Lib.repeatL [120] n = l) (hn : n ≤ 1000) (w : World) : Calls Tryd.prog 25 #[.string ⟨#[120]⟩, .int .i64 n] w (Makes w (.string ⟨l.toArray⟩)) := by
  refine (Tryd.strings_Repeat ⟨#[120]⟩ n w (by omega) (by show 1 * n ≤ _; omega)).mono ?_
  rintro e w' ⟨rfl, hb⟩
  exact ⟨by rw [← hl], hb⟩

set_option maxRecDepth 100000 in
set_option maxHeartbeats 16000000 in
theorem known_law (W : World) (hG : Gl W) : Calls Tryd.prog 9 #[] W (Makes W (.bool true)) := by
  have h0 := St.start W
  have gC := guardC
  have n1 := eql_cmd 1 [110, 101, 119, 115] []
  have n2 := eql_cmd 3 [110, 101, 119, 115] []
  have P1 := Lib.hid fun w h => Parse_any [83, 85, 66, 32, 110, 101, 119, 115] (.tuple #[cmdA 1 [110, 101, 119, 115] [], .bool true]) (congrArg cmdV (show parseW _ = some (1, [110, 101, 119, 115], []) from by decide +kernel)) w h (by decide)
  have P2 := Lib.hid fun w h => Parse_any [80, 85, 66, 32, 110, 101, 119, 115, 32] (.tuple #[cmdA 3 [110, 101, 119, 115] [], .bool true]) (congrArg cmdV (show parseW _ = some (3, [110, 101, 119, 115], []) from by decide +kernel)) w h (by decide)
  have P3 := Lib.hid fun w h => Parse_any [80, 85, 66, 32, 110, 101, 119, 115] (.tuple #[cmdA 0 [] [], .bool false]) (congrArg cmdV (show parseW _ = none from by decide +kernel)) w h (by decide)
  have P4 := Lib.hid fun w h => Parse_any [83, 85, 66, 32, 97, 32, 98] (.tuple #[cmdA 0 [] [], .bool false]) (congrArg cmdV (show parseW _ = none from by decide +kernel)) w h (by decide)
  have H1 := Lib.hid fun w h => Hear_any [77, 83, 71, 32, 110, 101, 119, 115, 32, 48, 51, 32, 49, 32, 120] (.tuple #[delA [] 0 0 [], .bool false]) (congrArg delV (show hearW _ = none from by decide +kernel)) w h (by decide)
  have F1 := Lib.hid fun w h => Faulted_any [69, 82, 82, 32, 52, 54, 49, 49, 54, 56, 54, 48, 49, 56, 52, 50, 55, 51, 56, 55, 57, 48, 52] (.tuple #[.int .i64 4611686018427387904, .bool true]) (congrArg numV (show faultedW _ = some 4611686018427387904 from by decide +kernel)) w h (by decide)
  have F2 := Lib.hid fun w h => Faulted_any [69, 82, 82, 32, 52, 54, 49, 49, 54, 56, 54, 48, 49, 56, 52, 50, 55, 51, 56, 55, 57, 48, 53] (.tuple #[.int .i64 0, .bool false]) (congrArg numV (show faultedW _ = none from by decide +kernel)) w h (by decide)
  have H2 := Lib.hid fun w h => Hear_any [77, 83, 71, 32, 97, 32, 49, 32, 50] (.tuple #[delA [] 0 0 [], .bool false]) (congrArg delV (show hearW _ = none from by decide +kernel)) w h (by decide)
  have R1 := Lib.hid fun w => Repeat_any 32 _ rfl (by decide) w
  have R2 := Lib.hid fun w => Repeat_any 33 _ rfl (by decide) w
  have l1 : (Lib.repeatL [120] 32).length ≤ 100 := by decide
  have l2 : (Lib.repeatL [120] 33).length ≤ 100 := by decide
  have T1 := Lib.hid fun w => (Topic_any (Lib.repeatL [120] 32) w (by omega)).mono fun e w' h => h.eq (v := .bool true) (by rw [show topic (Lib.repeatL [120] 32) = true from by decide +kernel])
  have T2 := Lib.hid fun w => (Topic_any (Lib.repeatL [120] 33) w (by omega)).mono fun e w' h => h.eq (v := .bool false) (by rw [show topic (Lib.repeatL [120] 33) = false from by decide +kernel])
  have U1 := Lib.hid fun w h => Fault_any (-1) (.string ⟨#[]⟩) (congrArg strV (show faultW (-1) = none from rfl)) w h
  clear l1 l2
  generalize Lib.repeatL [120] 32 = x at *
  generalize Lib.repeatL [120] 33 = y at *
  go_enter Tryd.func9, Tryd.ntmps9
  go_wp2_with fail
  refine (P1.out _ hG).mono ?_
  rintro e w1 hq
  have h1 := h0.makes hq
  obtain ⟨rfl, -⟩ := hq
  have h1 := h1.alloc (.cells #[.int .i64 1, .string ⟨#[110, 101, 119, 115]⟩, .string ⟨#[]⟩] 23 (0, 0))
  go_wp2_with fail
  refine (P2.out _ (hG.st h1)).mono ?_
  rintro e w2 hq
  have h2 := h1.makes hq
  obtain ⟨rfl, -⟩ := hq
  have h2 := h2.alloc (.cells #[.int .i64 3, .string ⟨#[110, 101, 119, 115]⟩, .string ⟨#[]⟩] 23 (0, 0))
  go_wp2_with fail
  refine (P3.out _ (hG.st h2)).mono ?_
  rintro e w3 hq
  have h3 := h2.makes hq
  obtain ⟨rfl, -⟩ := hq
  have h3 := St.past h3 ((St.start _).alloc (.cells #[.int .i64 0, .string ⟨#[]⟩, .string ⟨#[]⟩] 23 (0, 0))).below
  go_wp2_with fail
  refine (P4.out _ (hG.st h3)).mono ?_
  rintro e w4 hq
  have h4 := h3.makes hq
  obtain ⟨rfl, -⟩ := hq
  have h4 := St.past h4 ((St.start _).alloc (.cells #[.int .i64 0, .string ⟨#[]⟩, .string ⟨#[]⟩] 23 (0, 0))).below
  go_wp2_with fail
  refine (H1.out _ (hG.st h4)).mono ?_
  rintro e w5 hq
  have h5 := h4.makes hq
  obtain ⟨rfl, -⟩ := hq
  have h5 := St.past h5 ((St.start _).alloc (.cells #[.string ⟨#[]⟩, .int .i64 0, .int .i64 0, .string ⟨#[]⟩] 25 (0, 0))).below
  go_wp2_with fail
  refine (F1.out _ (hG.st h5)).mono ?_
  rintro e w6 hq
  have h6 := h5.makes hq
  obtain ⟨rfl, -⟩ := hq
  go_wp2_with fail
  refine (F2.out _ (hG.st h6)).mono ?_
  rintro e w7 hq
  have h7 := h6.makes hq
  obtain ⟨rfl, -⟩ := hq
  go_wp2_with fail
  refine (H2.out _ (hG.st h7)).mono ?_
  rintro e w8 hq
  have h8 := h7.makes hq
  obtain ⟨rfl, -⟩ := hq
  have h8 := St.past h8 ((St.start _).alloc (.cells #[.string ⟨#[]⟩, .int .i64 0, .int .i64 0, .string ⟨#[]⟩] 25 (0, 0))).below
  go_wp2_with fail
  refine (awake_any _ (hG.st h8)).mono ?_
  rintro e w9 hq
  have h9 := h8.makes hq
  obtain ⟨rfl, -⟩ := hq
  have ca0 := h9.cell 0 rfl
  have ca1 := h9.cell 1 rfl
  have ca2 := h9.cell 2 rfl
  have cb0 := h9.right.cell 0 rfl
  have cb1 := h9.right.cell 1 rfl
  have cb2 := h9.right.cell 2 rfl
  go_wp2_with fail
  refine (R1.out _).mono ?_
  rintro e w10 hq
  have h10 := h9.makes hq
  obtain ⟨rfl, -⟩ := hq
  clear ca0 ca1 ca2 cb0 cb1 cb2
  go_wp2_with fail
  refine (T1.out _).mono ?_
  rintro e w' ⟨rfl, rfl⟩
  go_wp2_with fail
  refine (R2.out _).mono ?_
  rintro e w11 hq
  have h11 := h10.makes hq
  obtain ⟨rfl, -⟩ := hq
  go_wp2_with fail
  refine (T2.out _).mono ?_
  rintro e w' ⟨rfl, rfl⟩
  go_wp2_with fail
  refine (U1.out _ (hG.st h11)).mono ?_
  rintro e w12 hq
  have h12 := h11.makes hq
  obtain ⟨rfl, -⟩ := hq
  go_wp2
  go_ret
  exact ⟨rfl, h12.below⟩

end Go.Proofs.YtjnkgblcfoblcaaDoor.WdY
