import Derived.Test.YtdobgebdlbckoaaGreatDoorBkU
import Derived.Test.YtdobgebdlbckoaaGreatDoorBkS
namespace Go.Proofs.YtdobgebdlbckoaaGreatDoor.BkK
open Go Go.RowKit Go.Proofs Go.Proofs.YtdobgebdlbckoaaGreatDoor.Sep Go.Proofs.YtdobgebdlbckoaaGreatDoor.Reg Go.Proofs.YtdobgebdlbckoaaGreatDoor.Frame Go.Proofs.YtdobgebdlbckoaaGreatDoor.Mp Go.Proofs.YtdobgebdlbckoaaGreatDoor.WdP Go.Proofs.YtdobgebdlbckoaaGreatDoor.WdN Go.Proofs.YtdobgebdlbckoaaGreatDoor.TpP Go.Proofs.YtdobgebdlbckoaaGreatDoor.TpA Go.Proofs.YtdobgebdlbckoaaGreatDoor.BkP Go.Proofs.YtdobgebdlbckoaaGreatDoor.BkA Go.Proofs.YtdobgebdlbckoaaGreatDoor.BkB Go.Proofs.YtdobgebdlbckoaaGreatDoor.BkC Go.Proofs.YtdobgebdlbckoaaGreatDoor.BkD Go.Proofs.YtdobgebdlbckoaaGreatDoor.BkW Go.Proofs.YtdobgebdlbckoaaGreatDoor.BkU
def b6 : BS := ([(2, 1)], [([97], 2)])
def b7 : BS := ([(2, 2)], [([97], 2)])
def b8 : BS := ([(2, 3)], [([97], 2)])
def b9 : BS := ([(2, 3)], [])
def unsubB_ : Tx := [85, 78, 83, 85, 66, 32, 98]
def pubX : Tx := [80, 85, 66, 32, 97, 32, 120]
def pubB_ : Tx := [80, 85, 66, 32, 98, 32]
def unsubA : Tx := [85, 78, 83, 85, 66, 32, 97]
def msgX : Tx := [77, 83, 71, 32, 97, 32, 50, 32, 50, 32, 120]
def err3 : Tx := [69, 82, 82, 32, 51]
theorem j3 : joinB b2 1 = (5, b2) := by kernel_rfl
theorem j4 : joinB b2 (-1) = (1, b2) := by kernel_rfl
theorem d2b : doB b4 2 1 subA = ([], b4) := by kernel_rfl
theorem d4b : doB b5 1 2 frob = ([(1, 1, err1)], b5) := by kernel_rfl
theorem d5 : doB b5 1 1 unsubB_ = ([(1, 1, err3)], b5) := by kernel_rfl
theorem l1 : leaveB b5 1 = (0, b6) := by kernel_rfl
theorem l2 : leaveB b6 1 = (4, b6) := by kernel_rfl
theorem d6 : doB b6 1 1 subA = ([], b6) := by kernel_rfl
theorem d7 : doB b6 2 2 pubX = ([(2, 2, msgX)], b7) := by kernel_rfl
theorem d8 : doB b7 2 1 pubB_ = ([], b8) := by kernel_rfl
theorem p8 : (getM (2 : Int) b8.1).getD 0 = 3 := by kernel_rfl
theorem m8 : sortI (b8.1.map (·.1)) = [2] := by simp [b8, sortI]
theorem h8 : byP b8.2 2 = [[97]] := by kernel_rfl
theorem o8 : ofP b8.2 [97] = [2] := by kernel_rfl
theorem d9 : doB b8 2 1 unsubA = ([], b9) := by kernel_rfl
theorem o9 : ofP b9.2 [97] = [] := by kernel_rfl
set_option maxRecDepth 100000 in
set_option maxHeartbeats 32000000 in
theorem known_any {W : World} (hG : Gl W) : Calls Tryz.prog 6 #[] W (Law W emp) := by
  have HG := Lib.hid hG
  clear hG
  have HNw := Lib.hid (BkA.New_any (St.start W))
  go_enter Tryz.func6, Tryz.ntmps6
  go_wp2_with fail
  refine HNw.out.mono ?_
  rintro e w0 ⟨p, rfl, g0⟩
  clear HNw
  have H1 := Lib.hid (Join_any p ([], []) g0 1)
  rw [j1] at H1
  clear g0
  go_wp2_with fail
  refine H1.out.mono ?_
  rintro e w1 ⟨rfl, g1⟩
  clear H1
  have H2 := Lib.hid (Join_any p b1 g1 2)
  rw [j2] at H2
  clear g1
  go_wp2_with fail
  refine H2.out.mono ?_
  rintro e w2 ⟨rfl, g2⟩
  clear H2
  have H3 := Lib.hid (Join_any p b2 g2 1)
  rw [j3] at H3
  clear g2
  go_wp2_with fail
  refine H3.out.mono ?_
  rintro e w3 ⟨rfl, g3⟩
  clear H3
  have H4 := Lib.hid (Join_any p b2 g3 (-1))
  rw [j4] at H4
  clear g3
  go_wp2_with fail
  refine H4.out.mono ?_
  rintro e w4 ⟨rfl, g4⟩
  clear H4
  have H5 := Lib.hid (Do_any p b2 g4 (by decide) (few rfl) HG.out 1 1 subA (by decide))
  rw [d1] at H5
  clear g4
  go_wp2_with fail
  refine H5.out.mono ?_
  rintro e w5 ⟨a5, n5, c5, rfl, hn5, g5⟩
  obtain rfl : 0 = n5 := hn5
  clear H5
  have H6 := Lib.hid (Do_any p b3 g5.right (by decide) (few rfl) HG.out 2 1 subA (by decide))
  rw [d2] at H6
  clear g5
  go_wp2_with fail
  refine H6.out.mono ?_
  rintro e w6 ⟨a6, n6, c6, rfl, hn6, g6⟩
  obtain rfl : 0 = n6 := hn6
  clear H6
  have H7 := Lib.hid (Do_any p b4 g6.right (by decide) (few rfl) HG.out 2 1 subA (by decide))
  rw [d2b] at H7
  clear g6
  go_wp2_with fail
  refine H7.out.mono ?_
  rintro e w7 ⟨a7, n7, c7, rfl, hn7, g7⟩
  obtain rfl : 0 = n7 := hn7
  clear H7
  have H8 := Lib.hid (Do_any p b4 g7.right (by decide) (few rfl) HG.out 2 1 pubA (by decide))
  rw [d3] at H8
  clear g7
  go_wp2_with fail
  refine H8.out.mono ?_
  rintro e w8 ⟨a8, n8, c8, rfl, hn8, g8⟩
  obtain rfl : 2 = n8 := hn8
  clear H8
  obtain ⟨xb, xo, rfl, x1, x2, x3⟩ := elO g8.rowSl (i := 0) (x := (1, 1, msgA)) rfl
  obtain ⟨xb', xo', xe, x4, x5, x6⟩ := elO g8.rowSl (i := 1) (x := (2, 1, msgA)) rfl
  cases xe
  simp only [Nat.zero_mul, Nat.add_zero, Nat.one_mul] at x1 x2 x3 x4 x5 x6
  unfold msgA at x3
  unfold msgA at x6
  have xc : 2 ≤ c8 ∧ c8 ≤ 9223372036854775807 := by obtain ⟨_, _, _, hv, h1, h2, _⟩ := g8.rowSl; cases hv; exact ⟨h1, by simpa [maxLen] using h2⟩
  have H9 := Lib.hid (Do_any p b5 g8.right (by decide) (few rfl) HG.out 1 2 frob (by decide))
  rw [d4b] at H9
  clear g8
  go_wp2_with fail
  refine H9.out.mono ?_
  rintro e w9 ⟨a9, n9, c9, rfl, hn9, g9⟩
  obtain rfl : 1 = n9 := hn9
  clear H9
  clear x1 x2 x3 x4 x5 x6 xc
  have H10 := Lib.hid (Do_any p b5 g9.swap (by decide) (few rfl) HG.out 1 1 unsubB_ (by decide))
  rw [d5] at H10
  clear g9
  go_wp2_with fail
  refine H10.out.mono ?_
  rintro e w10 ⟨a10, n10, c10, rfl, hn10, g10⟩
  obtain rfl : 1 = n10 := hn10
  clear H10
  obtain ⟨yb, yo, rfl, y1, y2, y3⟩ := elO g10.right.right.rowSl (i := 0) (x := (1, 1, err1)) rfl
  simp only [Nat.zero_mul, Nat.add_zero] at y1 y2 y3
  unfold err1 at y3
  have yc : 1 ≤ c9 ∧ c9 ≤ 9223372036854775807 := by obtain ⟨_, _, _, hv, h1, h2, _⟩ := g10.right.right.rowSl; cases hv; exact ⟨h1, by simpa [maxLen] using h2⟩
  obtain ⟨zb, zo, rfl, z1, z2, z3⟩ := elO g10.rowSl (i := 0) (x := (1, 1, err3)) rfl
  simp only [Nat.zero_mul, Nat.add_zero] at z1 z2 z3
  unfold err3 at z3
  have zc : 1 ≤ c10 ∧ c10 ≤ 9223372036854775807 := by obtain ⟨_, _, _, hv, h1, h2, _⟩ := g10.rowSl; cases hv; exact ⟨h1, by simpa [maxLen] using h2⟩
  have g10x : St W w10 (star (IsB p b5) emp) := (g10.right.swap).right
  clear g10
  have H11 := Lib.hid (Leave_any p b5 g10x (by decide) 1)
  rw [l1] at H11
  clear g10x
  go_wp2_with fail
  refine H11.out.mono ?_
  rintro e w11 ⟨rfl, g11⟩
  clear H11
  clear y1 y2 y3 yc z1 z2 z3 zc
  have H12 := Lib.hid (Leave_any p b6 g11 (by decide) 1)
  rw [l2] at H12
  clear g11
  go_wp2_with fail
  refine H12.out.mono ?_
  rintro e w12 ⟨rfl, g12⟩
  clear H12
  have H13 := Lib.hid (Do_any p b6 g12 (by decide) (few rfl) HG.out 1 1 subA (by decide))
  rw [d6] at H13
  clear g12
  go_wp2_with fail
  refine H13.out.mono ?_
  rintro e w13 ⟨a13, n13, c13, rfl, hn13, g13⟩
  obtain rfl : 0 = n13 := hn13
  clear H13
  have H14 := Lib.hid (Do_any p b6 g13.right (by decide) (few rfl) HG.out 2 2 pubX (by decide))
  rw [d7] at H14
  clear g13
  go_wp2_with fail
  refine H14.out.mono ?_
  rintro e w14 ⟨a14, n14, c14, rfl, hn14, g14⟩
  obtain rfl : 1 = n14 := hn14
  clear H14
  have H15 := Lib.hid (Do_any p b7 g14.swap (by decide) (few rfl) HG.out 2 1 pubB_ (by decide))
  rw [d8] at H15
  clear g14
  go_wp2_with fail
  refine H15.out.mono ?_
  rintro e w15 ⟨a15, n15, c15, rfl, hn15, g15⟩
  obtain rfl : 0 = n15 := hn15
  clear H15
  obtain ⟨vb, vo, rfl, v1, v2, v3⟩ := elO g15.right.right.rowSl (i := 0) (x := (2, 2, msgX)) rfl
  simp only [Nat.zero_mul, Nat.add_zero] at v1 v2 v3
  unfold msgX at v3
  have vc : 1 ≤ c14 ∧ c14 ≤ 9223372036854775807 := by obtain ⟨_, _, _, hv, h1, h2, _⟩ := g15.right.right.rowSl; cases hv; exact ⟨h1, by simpa [maxLen] using h2⟩
  have g15x : St W w15 (star (IsB p b8) emp) := (g15.right.swap).right
  clear g15
  have HP := Lib.hid (Published_any p b8 g15x 2)
  rw [p8] at HP
  go_wp2_with fail
  refine HP.out.mono ?_
  rintro e wp ⟨rfl, rfl⟩
  clear HP v1 v2 v3 vc
  have H16 := Lib.hid (Members_any p b8 g15x (by decide))
  clear g15x
  go_wp2_with fail
  refine H16.out.mono ?_
  rintro e w16 ⟨a16, c16, rfl, g16⟩
  clear H16
  rw [m8] at g16
  have q16 := g16.alloc (.cells #[.int .i64 2] 3)
  have s16 := (St.mkRow (size := 1) (n := 1) (cap := 1) (xs := [.int .i64 2]) q16 (Nat.le_refl _) (by unfold maxLen; omega) rfl rfl).rowSl
  have S16 := Lib.hid ((BkS.sameI_any [2] [2] _ a16 1 c16 _ 1 1 rfl rfl (by omega) q16.right.rowSl s16).mono fun e w h => h.eq (v := .bool true) (by rw [decide_eq_true rfl]))
  clear g16 s16
  go_wp2_with fail
  refine S16.out.mono ?_
  rintro e v16 hq
  have r16 := (q16.makes hq).right.right
  obtain ⟨rfl, -⟩ := hq
  clear S16 q16
  have H17 := Lib.hid (Hears_any p b8 r16 (by decide) 2)
  clear r16
  go_wp2_with fail
  refine H17.out.mono ?_
  rintro e w17 ⟨a17, n17, c17, rfl, hn17, g17⟩
  clear H17
  rw [h8] at g17 hn17
  obtain rfl : 1 = n17 := hn17
  have q17 := g17.alloc (.cells #[.string ⟨#[97]⟩] 9)
  have s17 := (St.mkRow (size := 1) (n := 1) (cap := 1) (xs := [.string ⟨#[97]⟩]) q17 (Nat.le_refl _) (by unfold maxLen; omega) rfl rfl).rowSl
  have S17 := Lib.hid ((BkS.sameS_any [[97]] [[97]] _ a17 1 c17 _ 1 1 rfl rfl (by omega) q17.right.rowSl s17).mono fun e w h => h.eq (v := .bool true) (by rw [decide_eq_true rfl]))
  clear g17 s17
  go_wp2_with fail
  refine S17.out.mono ?_
  rintro e v17 hq
  have r17 := (q17.makes hq).right.right
  obtain ⟨rfl, -⟩ := hq
  clear S17 q17
  have H18 := Lib.hid (BkO.Of_any p b8 r17 (by decide) [97])
  clear r17
  go_wp2_with fail
  refine H18.out.mono ?_
  rintro e w18 ⟨a18, n18, c18, rfl, hn18, g18⟩
  clear H18
  rw [o8] at g18 hn18
  obtain rfl : 1 = n18 := hn18
  have q18 := g18.alloc (.cells #[.int .i64 2] 3)
  have s18 := (St.mkRow (size := 1) (n := 1) (cap := 1) (xs := [.int .i64 2]) q18 (Nat.le_refl _) (by unfold maxLen; omega) rfl rfl).rowSl
  have S18 := Lib.hid ((BkS.sameI_any [2] [2] _ a18 1 c18 _ 1 1 rfl rfl (by omega) q18.right.rowSl s18).mono fun e w h => h.eq (v := .bool true) (by rw [decide_eq_true rfl]))
  clear g18 s18
  go_wp2_with fail
  refine S18.out.mono ?_
  rintro e v18 hq
  have r18 := (q18.makes hq).right.right
  obtain ⟨rfl, -⟩ := hq
  clear S18 q18
  have H19 := Lib.hid (Do_any p b8 r18 (by decide) (few rfl) HG.out 2 1 unsubA (by decide))
  rw [d9] at H19
  clear r18
  go_wp2_with fail
  refine H19.out.mono ?_
  rintro e w19 ⟨a19, n19, c19, rfl, hn19, g19⟩
  obtain rfl : 0 = n19 := hn19
  clear H19
  have H20 := Lib.hid (BkO.Of_any p b9 g19.right (by decide) [97])
  clear g19
  go_wp2_with fail
  refine H20.out.mono ?_
  rintro e w20 ⟨a20, n20, c20, rfl, hn20, g20⟩
  clear H20
  rw [o9] at hn20
  obtain rfl : 0 = n20 := hn20
  have HW := Lib.hid (wakes_any HG.out g20)
  clear g20
  go_wp2_with fail
  refine HW.out.mono ?_
  rintro e wz ⟨rfl, gz⟩
  go_wp2
  go_ret
  exact ⟨rfl, gz.right.right⟩
end Go.Proofs.YtdobgebdlbckoaaGreatDoor.BkK
