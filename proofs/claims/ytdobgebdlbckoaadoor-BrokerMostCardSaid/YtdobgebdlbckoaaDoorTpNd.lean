import Derived.Test.YtdobgebdlbckoaaDoorTpM
namespace Go.Proofs.YtdobgebdlbckoaaDoor.TpNd
open Go Go.RowKit Go.Proofs Go.Proofs.YtdobgebdlbckoaaDoor.Sep Go.Proofs.YtdobgebdlbckoaaDoor.Reg Go.Proofs.YtdobgebdlbckoaaDoor.Frame Go.Proofs.YtdobgebdlbckoaaDoor.Strs Go.Proofs.YtdobgebdlbckoaaDoor.Mp Go.Proofs.YtdobgebdlbckoaaDoor.Ms Go.Proofs.YtdobgebdlbckoaaDoor.TpP Go.Proofs.YtdobgebdlbckoaaDoor.TpA Go.Proofs.YtdobgebdlbckoaaDoor.TpB Go.Proofs.YtdobgebdlbckoaaDoor.TpI Go.Proofs.YtdobgebdlbckoaaDoor.TpJ Go.Proofs.YtdobgebdlbckoaaDoor.TpK Go.Proofs.YtdobgebdlbckoaaDoor.TpL Go.Proofs.YtdobgebdlbckoaaDoor.TpM

def foldD (l : List Pr) (k : Int) (ts : List Tx) : List Pr := ts.foldl (fun w t => dropP w t k) l
theorem foldD_le (k : Int) : ∀ (ts : List Tx) (l : List Pr), (foldD l k ts).length ≤ l.length
  | [], _ => Nat.le_refl _
  | t :: ts, l => Nat.le_trans (foldD_le k ts (dropP l t k)) (List.length_filter_le _ _)
def DAPst (W : World) (p : Nat) (l : List Pr) (k : Int) (R : Asn) (e : Ending) (w' : World) : Prop :=
  ∃ a c, e = .returned (.slice a (byP l k).length c) ∧ St W w' (star (Row 9 1 (.slice a (byP l k).length c) (byP l k).length ((byP l k).map kS)) (star (IsR p (dropAllP l k)) R))
end Go.Proofs.YtdobgebdlbckoaaDoor.TpNd
