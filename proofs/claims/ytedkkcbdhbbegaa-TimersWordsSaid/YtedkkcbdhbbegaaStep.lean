/-
  append, as one step of a region that draws its order (for 'go_region_law'). No program is named here.
-/
import Derived.Test.YtedkkcbdhbbegaaSep
import Derived.Deep.RegionLaw
namespace Go.Proofs.Ytedkkcbdhbbegaa.Step
open Go Go.RowKit Go.Proofs.Ytedkkcbdhbbegaa.Sep
theorem step_append_Sl {P : Program} {W w : World} {R : Asn} {ops : Array Oper} {o : Oper} {a : Act} {K : Act → World → Prop} {Q : Exit → Act → World → Prop} {E : Prop} (hgd : o.guard = none) (s x : Operand) (t : TypeId)
    (ho : o.op = .call { callee := .builtin .append, args := #[s, x], argTypes := #[t, t] })
    (e : TypeId) (i : TypeInfo) (z : Value) (size bytes : Nat) (ht : P.underlying t = some (.slice e)) (hi : P.info? e = some i) (hz : i.zero = some z)
    (hsize : i.size = size) (hby : i.bytes = bytes) (hzs : z.cells.size = size)
    (v : Value) (n : Nat) (xs : List Value) (hs : a.eval s = v) (hown : St W w (star (Row e size v n xs) R))
    (u : Value) (m : Nat) (news : List Value) (hx : a.eval x = u) (hsl : Sl w size u m news) (h1 : ∀ u ∈ news, u.oneCell' = true)
    (h63 : n + m ≤ maxLen) (hbytes : (n + m) * bytes ≤ 140737488355328)
    (h : ∀ v' w', St W w' (star (Row e size v' (n + m) (xs ++ news)) R) → (v' = .slice none 0 0 ↔ v = .slice none 0 0 ∧ m = 0) → K (a.put o.dst v') w') :
    if Region.wanted o (yielded ops a.tmps) = true then Oper.wp P o a w K Q else E := by
  have hw : Region.wanted o (yielded ops a.tmps) = true := by simp [Region.wanted, hgd]
  rw [if_pos hw]
  obtain ⟨v', w', hr, h2, h4⟩ := run_append_Sl (P := P) t o.type e i z size bytes ht hi hz hsize hby hzs v n xs hown u m news hsl h1 h63 hbytes
  unfold Oper.wp execOp
  simp only [ho, resolve, invoke, builtin, Sem.run_bind, Sem.run_pure, Result.andThen_ok, List.map_toArray, List.map_cons, List.map_nil, hs, hx, hr]
  exact h _ _ h2 h4
end Go.Proofs.Ytedkkcbdhbbegaa.Step
