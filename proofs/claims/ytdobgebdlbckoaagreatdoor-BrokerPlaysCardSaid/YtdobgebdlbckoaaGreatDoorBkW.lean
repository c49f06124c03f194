import Derived.Test.YtdobgebdlbckoaaGreatDoorBkD
namespace Go.Proofs.YtdobgebdlbckoaaGreatDoor.BkW
open Go Go.RowKit Go.Proofs Go.Proofs.YtdobgebdlbckoaaGreatDoor.Sep Go.Proofs.YtdobgebdlbckoaaGreatDoor.Reg Go.Proofs.YtdobgebdlbckoaaGreatDoor.Frame Go.Proofs.YtdobgebdlbckoaaGreatDoor.Mp Go.Proofs.YtdobgebdlbckoaaGreatDoor.WdP Go.Proofs.YtdobgebdlbckoaaGreatDoor.WdN Go.Proofs.YtdobgebdlbckoaaGreatDoor.TpP Go.Proofs.YtdobgebdlbckoaaGreatDoor.TpA Go.Proofs.YtdobgebdlbckoaaGreatDoor.BkP Go.Proofs.YtdobgebdlbckoaaGreatDoor.BkA Go.Proofs.YtdobgebdlbckoaaGreatDoor.BkB Go.Proofs.YtdobgebdlbckoaaGreatDoor.BkC Go.Proofs.YtdobgebdlbckoaaGreatDoor.BkD

def b1 : BS := ([(1, 0)], [])
def b2 : BS := ([(1, 0), (2, 0)], [])
def b3 : BS := ([(1, 0), (2, 0)], [([97], 1)])
def b4 : BS := ([(1, 0), (2, 0)], [([97], 1), ([97], 2)])
def b5 : BS := ([(1, 0), (2, 1)], [([97], 1), ([97], 2)])
def subA : Tx := [83, 85, 66, 32, 97]
def pubA : Tx := [80, 85, 66, 32, 97, 32, 104, 105]
def frob : Tx := [102, 114, 111, 98]
def msgA : Tx := [77, 83, 71, 32, 97, 32, 50, 32, 49, 32, 104, 105]
def err1 : Tx := [69, 82, 82, 32, 49]
theorem j1 : joinB ([], []) 1 = (0, b1) := by kernel_rfl
theorem j2 : joinB b1 2 = (0, b2) := by kernel_rfl
theorem d1 : doB b2 1 1 subA = ([], b3) := by kernel_rfl
theorem d2 : doB b3 2 1 subA = ([], b4) := by kernel_rfl
theorem d3 : doB b4 2 1 pubA = ([(1, 1, msgA), (2, 1, msgA)], b5) := by kernel_rfl
theorem d4 : doB b5 1 1 frob = ([(1, 1, err1)], b5) := by kernel_rfl
theorem p5 : (getM (2 : Int) b5.1).getD 0 = 1 := by kernel_rfl
theorem few {b : BS} (h : b.1.all (fun e => decide (e.2 ≤ 1000000)) = true) : ∀ e ∈ b.1, e.2 ≤ 1000000 := fun e he => by simpa using (List.all_eq_true.1 h) e he
set_option maxRecDepth 100000 in
set_option maxHeartbeats 16000000 in
theorem wakes_any {W w : World} {R : Asn} (hG : Gl W) (h : St W w R) : Calls Tryz.prog 9 #[] w (Law W R) := by
  have HG := Lib.hid hG
  clear hG
  have HNw := Lib.hid (BkA.New_any h)
  clear h
  go_enter Tryz.func9, Tryz.ntmps9
  go_wp2_with fail
  refine HNw.out.mono ?_
  rintro e w1 ⟨p, rfl, h1⟩
  have HJ := Lib.hid (Join_any p ([], []) h1 1)
  rw [j1] at HJ
  clear h1 HNw
  go_wp2_with fail
  refine HJ.out.mono ?_
  rintro e w2 ⟨rfl, h2⟩
  have HJ2 := Lib.hid (Join_any p b1 h2 2)
  rw [j2] at HJ2
  clear h2 HJ
  go_wp2_with fail
  refine HJ2.out.mono ?_
  rintro e w3 ⟨rfl, h3⟩
  have HD := Lib.hid (Do_any p b2 h3 (by decide) (few rfl) HG.out 1 1 subA (by decide))
  rw [d1] at HD
  clear h3 HJ2
  go_wp2_with fail
  refine HD.out.mono ?_
  rintro e w4 ⟨a4, n4, c4, rfl, hn4, h4⟩
  have HD2 := Lib.hid (Do_any p b3 h4.right (by decide) (few rfl) HG.out 2 1 subA (by decide))
  rw [d2] at HD2
  clear h4 HD hn4
  go_wp2_with fail
  refine HD2.out.mono ?_
  rintro e w5 ⟨a5, n5, c5, rfl, hn5, h5⟩
  have HD := Lib.hid (Do_any p b4 h5.right (by decide) (few rfl) HG.out 2 1 pubA (by decide))
  rw [d3] at HD
  clear h5 HD2 hn5
  go_wp2_with fail
  refine HD.out.mono ?_
  rintro e w6 ⟨a6, n6, c6, rfl, hn6, h6⟩
  obtain rfl : 2 = n6 := hn6
  have HD2 := Lib.hid (Do_any p b5 h6.swap (by decide) (few rfl) HG.out 1 1 frob (by decide))
  rw [d4] at HD2
  clear h6 HD
  go_wp2_with fail
  refine HD2.out.mono ?_
  rintro e w7 ⟨a7, n7, c7, rfl, hn7, h7⟩
  obtain rfl : 1 = n7 := hn7
  have h8 := h7.eq (B := star (Row 40 3 (.slice a6 2 c6) 2 (outsV [(1, 1, msgA), (2, 1, msgA)])) (star (Row 40 3 (.slice a7 1 c7) 1 (outsV [(1, 1, err1)])) (star (IsB p b5) R))) (by show star _ (star _ (star (Row 40 3 (.slice a6 2 c6) 2 (outsV [(1, 1, msgA), (2, 1, msgA)])) R)) = _; ac_rfl)
  obtain ⟨xb, xo, rfl, x1, x2, x3⟩ := elO h8.rowSl (i := 0) (x := (1, 1, msgA)) rfl
  obtain ⟨xb', xo', e', y1, y2, y3⟩ := elO h8.rowSl (i := 1) (x := (2, 1, msgA)) rfl
  cases e'
  obtain ⟨zb, zo, rfl, z1, z2, z3⟩ := elO h8.right.rowSl (i := 0) (x := (1, 1, err1)) rfl
  simp only [Nat.zero_mul, Nat.add_zero, Nat.one_mul] at x1 x2 x3 y1 y2 y3 z1 z2 z3
  have hc6 : 2 ≤ c6 ∧ c6 ≤ 9223372036854775807 := by obtain ⟨_, _, _, hv, h1, h2, _⟩ := h8.rowSl; cases hv; exact ⟨h1, by simpa [maxLen] using h2⟩
  have hc7 : 1 ≤ c7 ∧ c7 ≤ 9223372036854775807 := by obtain ⟨_, _, _, hv, h1, h2, _⟩ := h8.right.rowSl; cases hv; exact ⟨h1, by simpa [maxLen] using h2⟩
  have HP := Lib.hid (Published_any p b5 h8.right.right 2)
  rw [p5] at HP
  have H9 := Lib.hid h8.right.right.right
  clear h7 h8 HD2
  unfold msgA at x3 y3
  unfold err1 at z3
  go_wp2_with fail
  refine HP.out.mono ?_
  rintro e w8 ⟨rfl, rfl⟩
  go_wp2
  go_ret
  exact ⟨rfl, H9.out⟩
theorem Join_nil (id : Int) (w : World) : Calls Tryz.prog 11 #[.pointer none, .int .i64 id] w fun e w' => e = .returned (.int .i64 2) ∧ w = w' := by
  have HN := Lib.hid (BkA.none_nil w)
  go_enter Tryz.func11, Tryz.ntmps11
  go_wp2_with fail
  refine HN.out.mono ?_
  rintro e w1 ⟨rfl, rfl⟩
  go_wp2
  go_ret
  exact ⟨rfl, rfl⟩
theorem Leave_nil (id : Int) (w : World) : Calls Tryz.prog 12 #[.pointer none, .int .i64 id] w fun e w' => e = .returned (.int .i64 2) ∧ w = w' := by
  have HN := Lib.hid (BkA.none_nil w)
  go_enter Tryz.func12, Tryz.ntmps12
  go_wp2_with fail
  refine HN.out.mono ?_
  rintro e w1 ⟨rfl, rfl⟩
  go_wp2
  go_ret
  exact ⟨rfl, rfl⟩
set_option maxRecDepth 100000 in
theorem Do_nil (id op : Int) (s : Tx) (w : World) : Calls Tryz.prog 13 #[.pointer none, .int .i64 id, .int .i64 op, kS s] w fun e w' => e = .returned (.slice none 0 0) ∧ w = w' := by
  have HN := Lib.hid (member_nil id w)
  go_enter Tryz.func13, Tryz.ntmps13
  go_wp2_with fail
  refine HN.out.mono ?_
  rintro e w1 ⟨rfl, rfl⟩
  go_wp2
  go_ret
  exact ⟨rfl, rfl⟩
theorem Members_nil (w : World) : Calls Tryz.prog 14 #[.pointer none] w fun e w' => e = .returned (.slice none 0 0) ∧ w = w' := by
  have HN := Lib.hid (BkA.none_nil w)
  go_enter Tryz.func14, Tryz.ntmps14
  go_wp2_with fail
  refine HN.out.mono ?_
  rintro e w1 ⟨rfl, rfl⟩
  go_wp2
  go_ret
  exact ⟨rfl, rfl⟩
theorem Hears_nil (id : Int) (w : World) : Calls Tryz.prog 15 #[.pointer none, .int .i64 id] w fun e w' => e = .returned (.slice none 0 0) ∧ w = w' := by
  have HN := Lib.hid (BkA.none_nil w)
  go_enter Tryz.func15, Tryz.ntmps15
  go_wp2_with fail
  refine HN.out.mono ?_
  rintro e w1 ⟨rfl, rfl⟩
  go_wp2
  go_ret
  exact ⟨rfl, rfl⟩
theorem Published_nil (id : Int) (w : World) : Calls Tryz.prog 17 #[.pointer none, .int .i64 id] w fun e w' => e = .returned (.int .i64 0) ∧ w = w' := by
  have HN := Lib.hid (BkA.none_nil w)
  go_enter Tryz.func17, Tryz.ntmps17
  go_wp2_with fail
  refine HN.out.mono ?_
  rintro e w1 ⟨rfl, rfl⟩
  go_wp2
  go_ret
  exact ⟨rfl, rfl⟩
end Go.Proofs.YtdobgebdlbckoaaGreatDoor.BkW
