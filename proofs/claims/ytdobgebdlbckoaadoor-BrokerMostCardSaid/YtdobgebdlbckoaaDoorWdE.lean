import Derived.Test.YtdobgebdlbckoaaDoorWdD
import Derived.Test.YtdobgebdlbckoaaDoorStrs
namespace Go.Proofs.YtdobgebdlbckoaaDoor.WdE
open Go Go.RowKit Go.Proofs Go.Proofs.YtdobgebdlbckoaaDoor.Sep Go.Proofs.YtdobgebdlbckoaaDoor.Reg Go.Proofs.YtdobgebdlbckoaaDoor.Frame Go.Proofs.YtdobgebdlbckoaaDoor.Strs Go.Proofs.YtdobgebdlbckoaaDoor.WdP Go.Proofs.YtdobgebdlbckoaaDoor.WdT Go.Proofs.YtdobgebdlbckoaaDoor.WdN Go.Proofs.YtdobgebdlbckoaaDoor.WdC Go.Proofs.YtdobgebdlbckoaaDoor.WdD

theorem parse_nob {s a r : List UInt8} (h : cutB s = (a, r, false)) : parseW s = none := by
  rcases cutB_cases s with ⟨x, q, rfl, hx, e⟩ | ⟨hx, e⟩
  · rw [h] at e; simp at e
  · unfold parseW
    rw [e]
    simp [topic, isTok, cutB]

end Go.Proofs.YtdobgebdlbckoaaDoor.WdE
