import Derived.Test.YtdobgebdlbckoaaDoorWdE
namespace Go.Proofs.YtdobgebdlbckoaaDoor.WdF
open Go Go.RowKit Go.Proofs Go.Proofs.YtdobgebdlbckoaaDoor.Sep Go.Proofs.YtdobgebdlbckoaaDoor.Reg Go.Proofs.YtdobgebdlbckoaaDoor.Frame Go.Proofs.YtdobgebdlbckoaaDoor.Strs Go.Proofs.YtdobgebdlbckoaaDoor.WdP Go.Proofs.YtdobgebdlbckoaaDoor.WdT Go.Proofs.YtdobgebdlbckoaaDoor.WdN Go.Proofs.YtdobgebdlbckoaaDoor.WdC Go.Proofs.YtdobgebdlbckoaaDoor.WdD Go.Proofs.YtdobgebdlbckoaaDoor.WdE

abbrev delA (t : List UInt8) (a b : Int) (d : List UInt8) : Value := .agg #[.string ⟨t.toArray⟩, .int .i64 a, .int .i64 b, .string ⟨d.toArray⟩]
theorem told_none {t d : List UInt8} {a b : Int} (h : topic t = false ∨ may a = false ∨ may b = false) : toldW t a b d = none := by
  unfold toldW; rw [if_neg]; simp; rcases h with h | h | h <;> simp [h]
theorem told_some {t d : List UInt8} {m n : Nat} (h1 : topic t = true) (h2 : may m = true) (h3 : may n = true) : toldW t m n d = some (wMSG ++ 32 :: (t ++ 32 :: (Lib.decDigits m ++ 32 :: (Lib.decDigits n ++ 32 :: d)))) := by
  unfold toldW; rw [h1, h2, h3]; rfl

def rdelV : Option Del → Value
  | some (t, a, b, d) => .tuple #[.string ⟨t.toArray⟩, .int .i64 a, .int .i64 b, .string ⟨d.toArray⟩, .bool true]
  | none => .tuple #[.string ⟨#[]⟩, .int .i64 0, .int .i64 0, .string ⟨#[]⟩, .bool false]
def delV : Option Del → Value
  | some (t, a, b, d) => .tuple #[delA t a b d, .bool true]
  | none => .tuple #[delA [] 0 0 [], .bool false]
theorem hear_of {s a r b r2 c r3 d e : List UInt8} {k1 k2 k3 k4 : Bool} (h1 : cutB s = (a, r, k1)) (h2 : cutB r = (b, r2, k2)) (h3 : cutB r2 = (c, r3, k3)) (h4 : cutB r3 = (d, e, k4)) :
    hearW s = if a = wMSG ∧ k1 = true ∧ k2 = true ∧ k3 = true ∧ k4 = true ∧ topic b = true then (match num c, num d with | some m, some n => some (b, m, n, e) | _, _ => none) else none := by
  unfold hearW
  rw [h1]; simp only
  rw [h2]; simp only
  rw [h3]; simp only
  rw [h4]
  rfl

theorem results_tmp5 {fn : Func} {t1 t2 t3 t4 t5 : Tmp} (h : fn.results = #[.tmp t1, .tmp t2, .tmp t3, .tmp t4, .tmp t5]) (tmps : Array Value) (P : Program) (w : World) :
    (results fn tmps).run P w = .ok (.tuple #[tmps.getD t1 undef, tmps.getD t2 undef, tmps.getD t3 undef, tmps.getD t4 undef, tmps.getD t5 undef]) w := by
  simp [results, h]
theorem num_cases (u : Option Nat) : ∃ x : Int, intV u = .int .i64 x ∧ ((u = none ∧ x < 0) ∨ ∃ m : Nat, u = some m ∧ x = m) := by
  cases u with
  | none => exact ⟨-1, rfl, .inl ⟨rfl, by omega⟩⟩
  | some m => exact ⟨m, rfl, .inr ⟨m, rfl, rfl⟩⟩

end Go.Proofs.YtdobgebdlbckoaaDoor.WdF
