/-
  What the library's variables hold, out of what the statement says of them.
-/
import Derived.Test.YtcjlbimmplejjaaGreatDoorRows
import Derived.Test.YtcjlbimmplejjaaGreatDoorWdN
import Derived.LaidSub
import Derived.MakeChecks
import Derived.Lib.LaidTab
import Derived.Stop.LaidErr
namespace Go.Proofs.YtcjlbimmplejjaaGreatDoor.WdG
open Go Go.RowKit Go.Proofs Go.Proofs.YtcjlbimmplejjaaGreatDoor.WdN

theorem star : "*" ++ "errors.errorString" = "*errors.errorString" := by decide
theorem rowErr (u : TypeId) (h : Tryz.prog.typeName? 3 u = some "*errors.errorString") : u = 170 :=
  typeName_ptr_named (nm := "errors.errorString") (by rw [star]; kernel_rfl) (by kernel_rfl) (by decide) u (by rw [star]; exact h)
theorem err_cell {W : World} {n : String} {g : Nat} {text : List UInt8} (h : laidMet Tryz.prog [(n, .iface "*errors.errorString" (.ptr (.agg [.lit (.string text)])))] W)
    (hg : Tryz.prog.globalNamed n = some g) (ht : (Tryz.prog.globals[g]?).map (·.type) = some 77) : ∃ ev, W.cell? ⟨g, 0, none⟩ = some ev ∧ (ev = .nilIface ∨ ∃ te pe, ev = .iface te pe) := by
  obtain ⟨a, s, hv, -⟩ := laid_sentinel h hg ht Tryz.underlying77 rowErr Tryz.underlying170 Tryz.underlying172 rfl rfl Tryz.underlying9 (by kernel_rfl) (by kernel_rfl)
  exact ⟨_, (World.var?_cell hg hv 0).trans rfl, .inr ⟨_, _, rfl⟩⟩

theorem gl_of {W : World} {laid : List (String × DataW Unit)} (hl : laidMetH Tryz.prog laid W) (hp : (laid.all fun x => x.2.handleName?.isNone) = true)
    (hf : laid.filter (fun x => x.1 == "internal/strconv.uint64pow10") = [("internal/strconv.uint64pow10", Lib.tabData .u64 Lib.pow10Tab)]) (hsh : W.ShapedOpen Tryz.prog) : Gl W := by
  rw [MakeChecks.laidMetH_plain _ _ _ hp] at hl
  have h1 := hl.filter fun x => x.1 == "internal/strconv.uint64pow10"
  rw [hf] at h1
  refine ⟨?_, ?_⟩
  · exact Go.Proofs.cell_of_shapedOpen_int (zero := #[.int .i64 0]) (t := 3) hsh (of_decide_eq_true (by kernel_rfl)) (by kernel_rfl) rfl (by kernel_rfl) (by kernel_rfl) Tryz.underlying3
  · exact Lib.tabIs_of_head (g := 1) (t := 152) (e := 110) (n := 20) (by kernel_rfl) (by kernel_rfl) (by kernel_rfl) (by kernel_rfl) (by kernel_rfl) (by kernel_rfl) h1

theorem er_of {W : World} {laid : List (String × DataW Unit)} (hl : laidMetH Tryz.prog laid W) (hp : (laid.all fun x => x.2.handleName?.isNone) = true)
    (hf : laid.filter (fun x => x.1 == "internal/strconv.uint64pow10") = [("internal/strconv.uint64pow10", Lib.tabData .u64 Lib.pow10Tab)])
    (hf1 : laid.filter (fun x => x.1 == "strconv.ErrSyntax") = [("strconv.ErrSyntax", .iface "*errors.errorString" (.ptr (.agg [.lit (.string [105, 110, 118, 97, 108, 105, 100, 32, 115, 121, 110, 116, 97, 120])])))])
    (hf2 : laid.filter (fun x => x.1 == "strconv.ErrRange") = [("strconv.ErrRange", .iface "*errors.errorString" (.ptr (.agg [.lit (.string [118, 97, 108, 117, 101, 32, 111, 117, 116, 32, 111, 102, 32, 114, 97, 110, 103, 101])])))]) (hsh : W.ShapedOpen Tryz.prog) : Gl W ∧ Er W := by
  refine ⟨gl_of hl hp hf hsh, ?_⟩
  rw [MakeChecks.laidMetH_plain _ _ _ hp] at hl
  have h2 := hl.filter fun x => x.1 == "strconv.ErrSyntax"
  rw [hf1] at h2
  have h3 := hl.filter fun x => x.1 == "strconv.ErrRange"
  rw [hf2] at h3
  refine ⟨?_, ?_⟩
  · exact err_cell h2 (by kernel_rfl) (by kernel_rfl)
  · exact err_cell h3 (by kernel_rfl) (by kernel_rfl)

end Go.Proofs.YtcjlbimmplejjaaGreatDoor.WdG
