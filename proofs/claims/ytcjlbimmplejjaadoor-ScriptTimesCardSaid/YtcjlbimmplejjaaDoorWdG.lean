/-
  What the library's variables hold, out of what the statement says of them.
-/
import Derived.Test.YtcjlbimmplejjaaDoorRows
import Derived.Test.YtcjlbimmplejjaaDoorWdN
import Derived.LaidSub
import Derived.MakeChecks
import Derived.Lib.LaidTab
import Derived.Stop.LaidErr
namespace Go.Proofs.YtcjlbimmplejjaaDoor.WdG
open Go Go.RowKit Go.Proofs Go.Proofs.YtcjlbimmplejjaaDoor.WdN

theorem star : "*" ++ "errors.errorString" = "*errors.errorString" := by decide
theorem rowErr (u : TypeId) (h : Tryd.prog.typeName? 3 u = some "*errors.errorString") : u = 138 :=
  typeName_ptr_named (nm := "errors.errorString") (by rw [star]; kernel_rfl) (by kernel_rfl) (by decide) u (by rw [star]; exact h)
theorem err_cell {W : World} {n : String} {g : Nat} {text : List UInt8} (h : laidMet Tryd.prog [(n, .iface "*errors.errorString" (.ptr (.agg [.lit (.string text)])))] W)
    (hg : Tryd.prog.globalNamed n = some g) (ht : (Tryd.prog.globals[g]?).map (·.type) = some 53) : ∃ ev, W.cell? ⟨g, 0, none⟩ = some ev ∧ (ev = .nilIface ∨ ∃ te pe, ev = .iface te pe) := by
  obtain ⟨a, s, hv, -⟩ := laid_sentinel h hg ht Tryd.underlying53 rowErr Tryd.underlying138 Tryd.underlying140 rfl rfl Tryd.underlying9 (by kernel_rfl) (by kernel_rfl)
  exact ⟨_, (World.var?_cell hg hv 0).trans rfl, .inr ⟨_, _, rfl⟩⟩

theorem gl_of {W : World} {laid : List (String × DataW Unit)} (hl : laidMetH Tryd.prog laid W) (hp : (laid.all fun x => x.2.handleName?.isNone) = true)
    (hf : laid.filter (fun x => x.1 == "internal/strconv.uint64pow10") = [("internal/strconv.uint64pow10", Lib.tabData .u64 Lib.pow10Tab)]) (hsh : W.ShapedOpen Tryd.prog) : Gl W := by
  rw [MakeChecks.laidMetH_plain _ _ _ hp] at hl
  have h1 := hl.filter fun x => x.1 == "internal/strconv.uint64pow10"
  rw [hf] at h1
  refine ⟨?_, ?_⟩
  · exact Go.Proofs.cell_of_shapedOpen_int (zero := #[.int .i64 0]) (t := 3) hsh (of_decide_eq_true (by kernel_rfl)) (by kernel_rfl) rfl (by kernel_rfl) (by kernel_rfl) Tryd.underlying3
  · exact Lib.tabIs_of_head (g := 1) (t := 104) (e := 89) (n := 20) (by kernel_rfl) (by kernel_rfl) (by kernel_rfl) (by kernel_rfl) (by kernel_rfl) (by kernel_rfl) h1

theorem er_of {W : World} {laid : List (String × DataW Unit)} (hl : laidMetH Tryd.prog laid W) (hp : (laid.all fun x => x.2.handleName?.isNone) = true)
    (hf : laid.filter (fun x => x.1 == "internal/strconv.uint64pow10") = [("internal/strconv.uint64pow10", Lib.tabData .u64 Lib.pow10Tab)])
    (hf1 : laid.filter (fun x => x.1 == "strconv.ErrSyntax") = [("strconv.ErrSyntax", .iface "*errors.errorString" (.ptr (.agg [.lit (.string [105, 110, 118, 97, 108, 105, 100, 32, 115, 121, 110, 116, 97, 120])])))])
    (hf2 : laid.filter (fun x => x.1 == "strconv.ErrRange") = [("strconv.ErrRange", .iface "*errors.errorString" (.ptr (.agg [.lit (.string [118, 97, 108, 117, 101, 32, 111, 117, 116, 32, 111, 102, 32, 114, 97, 110, 103, 101])])))]) (hsh : W.ShapedOpen Tryd.prog) : Gl W ∧ Er W := by
  refine ⟨gl_of hl hp hf hsh, ?_⟩
  rw [MakeChecks.laidMetH_plain _ _ _ hp] at hl
  have h2 := hl.filter fun x => x.1 == "strconv.ErrSyntax"
  rw [hf1] at h2
  have h3 := hl.filter fun x => x.1 == "strconv.ErrRange"
  rw [hf2] at h3
  refine ⟨?_, ?_⟩
  · exact err_cell h2 (by kernel_rfl) (by kernel_rfl)
  · exact err_cell h3 (by kernel_rfl) (by kernel_rfl)

end Go.Proofs.YtcjlbimmplejjaaDoor.WdG
