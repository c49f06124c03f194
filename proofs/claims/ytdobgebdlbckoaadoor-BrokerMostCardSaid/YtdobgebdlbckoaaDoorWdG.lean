/-
  What the library's variables hold, out of what the statement says of them.
-/
import Derived.Test.YtdobgebdlbckoaaDoorRows
import Derived.Test.YtdobgebdlbckoaaDoorWdN
import Derived.LaidSub
import Derived.MakeChecks
import Derived.Lib.LaidTab
import Derived.Stop.LaidErr
namespace Go.Proofs.YtdobgebdlbckoaaDoor.WdG
open Go Go.RowKit Go.Proofs Go.Proofs.YtdobgebdlbckoaaDoor.WdN

theorem star : "*" ++ "errors.errorString" = "*errors.errorString" := by decide
theorem gl_of {W : World} {laid : List (String × DataW Unit)} (hl : laidMetH Tryd.prog laid W) (hp : (laid.all fun x => x.2.handleName?.isNone) = true)
    (hf : laid.filter (fun x => x.1 == "internal/strconv.uint64pow10") = [("internal/strconv.uint64pow10", Lib.tabData .u64 Lib.pow10Tab)]) (hsh : W.ShapedOpen Tryd.prog) : Gl W := by
  rw [MakeChecks.laidMetH_plain _ _ _ hp] at hl
  have h1 := hl.filter fun x => x.1 == "internal/strconv.uint64pow10"
  rw [hf] at h1
  refine ⟨?_, ?_⟩
  · exact Go.Proofs.cell_of_shapedOpen_int (zero := #[.int .i64 0]) (t := 3) hsh (of_decide_eq_true (by kernel_rfl)) (by kernel_rfl) rfl (by kernel_rfl) (by kernel_rfl) Tryd.underlying3
  · exact Lib.tabIs_of_head (g := 1) (t := 109) (e := 100) (n := 20) (by kernel_rfl) (by kernel_rfl) (by kernel_rfl) (by kernel_rfl) (by kernel_rfl) (by kernel_rfl) h1

end Go.Proofs.YtdobgebdlbckoaaDoor.WdG
