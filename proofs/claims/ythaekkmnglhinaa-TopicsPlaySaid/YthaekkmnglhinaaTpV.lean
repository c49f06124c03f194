import Derived.Test.YthaekkmnglhinaaTpU
namespace Go.Proofs.Ythaekkmnglhinaa.TpV
open Go Go.RowKit Go.Proofs Go.Proofs.Ythaekkmnglhinaa.Sep Go.Proofs.Ythaekkmnglhinaa.Frame Go.Proofs.Ythaekkmnglhinaa.TpU
theorem law_of {W : World} {e : Ending} {w' : World} (h : Makes W (.bool true) e w') : Law W emp e w' := ⟨h.1, h.2, _, rfl, fun _ _ h => by cases h⟩
theorem known_walk {W : World} : Calls Try.prog 8 #[] W (Law W emp) := (known_any W).mono fun _ _ h => law_of h
end Go.Proofs.Ythaekkmnglhinaa.TpV
