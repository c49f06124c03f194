import Derived.Test.YtjnkgblcfoblcaaDoorWdH
import Derived.Laws.StructEq
namespace Go.Proofs.YtjnkgblcfoblcaaDoor.WdL
open Go Go.RowKit Go.Proofs Go.Proofs.YtjnkgblcfoblcaaDoor.Sep Go.Proofs.YtjnkgblcfoblcaaDoor.Reg Go.Proofs.YtjnkgblcfoblcaaDoor.Frame Go.Proofs.YtjnkgblcfoblcaaDoor.Strs Go.Proofs.YtjnkgblcfoblcaaDoor.WdP Go.Proofs.YtjnkgblcfoblcaaDoor.WdT Go.Proofs.YtjnkgblcfoblcaaDoor.WdN Go.Proofs.YtjnkgblcfoblcaaDoor.WdC Go.Proofs.YtjnkgblcfoblcaaDoor.WdD Go.Proofs.YtjnkgblcfoblcaaDoor.WdE Go.Proofs.YtjnkgblcfoblcaaDoor.WdF Go.Proofs.YtjnkgblcfoblcaaDoor.WdH

theorem eql_cmd (k : Int) (t d : List UInt8) (w : World) : (binOp .eql 23 (.agg #[.int .i64 k, .string ⟨t.toArray⟩, .string ⟨d.toArray⟩]) (.agg #[.int .i64 k, .string ⟨t.toArray⟩, .string ⟨d.toArray⟩])).run Tryd.prog w = .ok (.bool true) w := by
  have u3 := Tryd.underlying3
  have u9 := Tryd.underlying9
  have hS : Tryd.prog.underlying 23 = some (.struct (Tryd.prog.fieldsOf 23)) := by kernel_rfl
  have hp : Tryd.prog.stoodInHeld 23 = false := by kernel_rfl
  rw [run_eql_struct, show (10000 : Nat) = 9999 + 1 from rfl, run_equalIn_agg w 9999 23 _ _ hS hp]
  simp only [Program.fieldsOf, Tryd.underlying23]
  go_simp
theorem neq_cmd (k : Int) (t d : List UInt8) (w : World) : (binOp .neq 23 (.agg #[.int .i64 k, .string ⟨t.toArray⟩, .string ⟨d.toArray⟩]) (.agg #[.int .i64 k, .string ⟨t.toArray⟩, .string ⟨d.toArray⟩])).run Tryd.prog w = .ok (.bool false) w := by
  have u3 := Tryd.underlying3
  have u9 := Tryd.underlying9
  have hS : Tryd.prog.underlying 23 = some (.struct (Tryd.prog.fieldsOf 23)) := by kernel_rfl
  have hp : Tryd.prog.stoodInHeld 23 = false := by kernel_rfl
  rw [run_neq_struct, show (10000 : Nat) = 9999 + 1 from rfl, run_equalIn_agg w 9999 23 _ _ hS hp]
  simp only [Program.fieldsOf, Tryd.underlying23]
  go_simp
theorem eql_del (t : List UInt8) (a b : Int) (d : List UInt8) (w : World) : (binOp .eql 25 (.agg #[.string ⟨t.toArray⟩, .int .i64 a, .int .i64 b, .string ⟨d.toArray⟩]) (.agg #[.string ⟨t.toArray⟩, .int .i64 a, .int .i64 b, .string ⟨d.toArray⟩])).run Tryd.prog w = .ok (.bool true) w := by
  have u3 := Tryd.underlying3
  have u9 := Tryd.underlying9
  have hS : Tryd.prog.underlying 25 = some (.struct (Tryd.prog.fieldsOf 25)) := by kernel_rfl
  have hp : Tryd.prog.stoodInHeld 25 = false := by kernel_rfl
  rw [run_eql_struct, show (10000 : Nat) = 9999 + 1 from rfl, run_equalIn_agg w 9999 25 _ _ hS hp]
  simp only [Program.fieldsOf, Tryd.underlying25]
  go_simp
theorem neq_del (t : List UInt8) (a b : Int) (d : List UInt8) (w : World) : (binOp .neq 25 (.agg #[.string ⟨t.toArray⟩, .int .i64 a, .int .i64 b, .string ⟨d.toArray⟩]) (.agg #[.string ⟨t.toArray⟩, .int .i64 a, .int .i64 b, .string ⟨d.toArray⟩])).run Tryd.prog w = .ok (.bool false) w := by
  have u3 := Tryd.underlying3
  have u9 := Tryd.underlying9
  have hS : Tryd.prog.underlying 25 = some (.struct (Tryd.prog.fieldsOf 25)) := by kernel_rfl
  have hp : Tryd.prog.stoodInHeld 25 = false := by kernel_rfl
  rw [run_neq_struct, show (10000 : Nat) = 9999 + 1 from rfl, run_equalIn_agg w 9999 25 _ _ hS hp]
  simp only [Program.fieldsOf, Tryd.underlying25]
  go_simp
theorem guardC : Tryd.prog.eqGuardType Tryd.prog.depth 23 = false := by kernel_rfl
theorem guardD : Tryd.prog.eqGuardType Tryd.prog.depth 25 = false := by kernel_rfl

theorem told_ex : toldW [110, 101, 119, 115] 3 12 [104, 105] = some [77, 83, 71, 32, 110, 101, 119, 115, 32, 51, 32, 49, 50, 32, 104, 105] := by
  have h := told_some (t := [110, 101, 119, 115]) (d := [104, 105]) (m := 3) (n := 12) (by decide) (by decide) (by decide)
  rw [show Lib.decDigits 3 = [51] from Lib.decDigits_one (by decide), show Lib.decDigits 12 = [49, 50] from Lib.decDigits_two (by decide) (by decide)] at h
  exact h
theorem fault_ex : faultW 2 = some [69, 82, 82, 32, 50] := by
  unfold faultW
  rw [if_pos (by decide), show Lib.decDigits (2 : Int).toNat = [50] from Lib.decDigits_one (by decide)]
  rfl

set_option maxRecDepth 100000 in
set_option maxHeartbeats 4000000 in
theorem awake_any (W : World) (hG : Gl W) : Calls Tryd.prog 10 #[] W (Makes W (.bool true)) := by
  have HS := St.start W
  have gC := guardC
  have H1 := Lib.hid (Parse_any [80, 85, 66, 32, 110, 101, 119, 115, 32, 97, 32, 98] (.tuple #[cmdA 3 [110, 101, 119, 115] [97, 32, 98], .bool true]) (by rw [show parseW [80, 85, 66, 32, 110, 101, 119, 115, 32, 97, 32, 98] = some (3, [110, 101, 119, 115], [97, 32, 98]) from by decide +kernel]; rfl) W hG (by decide))
  have H2 := Lib.hid fun w h => Told_any [110, 101, 119, 115] 3 12 [104, 105] (.tuple #[.string ⟨#[77, 83, 71, 32, 110, 101, 119, 115, 32, 51, 32, 49, 50, 32, 104, 105]⟩, .bool true]) (by rw [told_ex]; rfl) w h (by decide) (by decide)
  have H3 := Lib.hid fun w h => Faulted_any [69, 82, 82, 32, 50] (.tuple #[.int .i64 2, .bool true]) (by rw [show faultedW [69, 82, 82, 32, 50] = some 2 from by decide +kernel]; rfl) w h (by decide)
  have H4 := Lib.hid fun w => (Topic_any [110, 101, 119, 115] w (by decide)).mono fun e w' h => h.eq (v := .bool true) (by rfl)
  have H5 := Lib.hid fun w h => Fault_any 2 (.string ⟨#[69, 82, 82, 32, 50]⟩) (by rw [fault_ex]; rfl) w h
  have he := eql_cmd 3 [110, 101, 119, 115] [97, 32, 98]
  go_enter Tryd.func10, Tryd.ntmps10
  go_wp2_with fail
  refine H1.out.mono ?_
  rintro e w1 hq
  have h1 := HS.makes hq
  obtain ⟨rfl, -⟩ := hq
  have h2 := h1.alloc (.cells #[.int .i64 3, .string ⟨#[110, 101, 119, 115]⟩, .string ⟨#[97, 32, 98]⟩] 23 (0, 0))
  go_wp2_with fail
  refine (H2.out _ (hG.st h2)).mono ?_
  rintro e w3 hq
  have h3 := h2.makes hq
  obtain ⟨rfl, -⟩ := hq
  go_wp2_with fail
  refine (H3.out _ (hG.st h3)).mono ?_
  rintro e w4 hq
  have h4 := h3.makes hq
  obtain ⟨rfl, -⟩ := hq
  have hc0 := h4.cell 0 rfl
  have hc1 := h4.cell 1 rfl
  have hc2 := h4.cell 2 rfl
  go_wp2_with fail
  refine (H4.out _).mono ?_
  rintro e w' ⟨rfl, rfl⟩
  go_wp2_with fail
  refine (H5.out _ (hG.st h4)).mono ?_
  rintro e w5 hq
  have h5 := h4.makes hq
  obtain ⟨rfl, -⟩ := hq
  go_wp2
  go_ret
  exact ⟨rfl, h5.below⟩

end Go.Proofs.YtjnkgblcfoblcaaDoor.WdL
