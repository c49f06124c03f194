import Derived.BigRegion
import Derived.Test.YtcjlbimmplejjaaGreatDoorScI
import Derived.Test.YtcjlbimmplejjaaGreatDoorScC
namespace Go.Proofs.YtcjlbimmplejjaaGreatDoor.ScJ
open Go Go.RowKit Go.Proofs Go.Proofs.YtcjlbimmplejjaaGreatDoor.Sep Go.Proofs.YtcjlbimmplejjaaGreatDoor.Reg Go.Proofs.YtcjlbimmplejjaaGreatDoor.Frame Go.Proofs.YtcjlbimmplejjaaGreatDoor.WdP Go.Proofs.YtcjlbimmplejjaaGreatDoor.WdT Go.Proofs.YtcjlbimmplejjaaGreatDoor.WdN Go.Proofs.YtcjlbimmplejjaaGreatDoor.ScP Go.Proofs.YtcjlbimmplejjaaGreatDoor.ScQ Go.Proofs.YtcjlbimmplejjaaGreatDoor.ScT Go.Proofs.YtcjlbimmplejjaaGreatDoor.ScB Go.Proofs.YtcjlbimmplejjaaGreatDoor.ScA Go.Proofs.YtcjlbimmplejjaaGreatDoor.ScM Go.Proofs.YtcjlbimmplejjaaGreatDoor.ScI

set_option maxRecDepth 100000 in
theorem eqA (x y : Ac) (w : World) : (Op.equalIn 10000 34 (.agg #[.int .u8 (x.k : Nat), .int .i64 x.c, .int .i64 x.n, .string ⟨x.s.toArray⟩]) (.agg #[.int .u8 (y.k : Nat), .int .i64 y.c, .int .i64 y.n, .string ⟨y.s.toArray⟩])).run Tryz.prog w = .ok (decide (x = y)) w := by
  obtain ⟨k, a, b, s⟩ := x
  obtain ⟨j, c, d, t⟩ := y
  have hs : (ByteArray.mk s.toArray).toList = s := by simp
  have ht : (ByteArray.mk t.toArray).toList = t := by simp
  have hk : ((k : Int) = (j : Int)) ↔ k = j := by omega
  simp only [Ac.mk.injEq]
  go_simp
  by_cases h1 : k = j
  · by_cases h2 : a = c
    · by_cases h3 : b = d
      · by_cases h4 : s = t
        · simp [h1, h2, h3, h4]
        · simp [h1, h2, h3, h4]
      · simp [h1, h2, h3]
    · simp [h1, h2]
  · have : ¬ ((k : Int) = (j : Int)) := by omega
    simp [h1, this]
theorem eql_act (x y : Ac) (w : World) : (Go.binOp .eql 34 (.agg #[.int .u8 (x.k : Nat), .int .i64 x.c, .int .i64 x.n, .string ⟨x.s.toArray⟩]) (.agg #[.int .u8 (y.k : Nat), .int .i64 y.c, .int .i64 y.n, .string ⟨y.s.toArray⟩])).run Tryz.prog w = .ok (.bool (decide (x = y))) w := by
  rw [run_eql_struct, eqA]; rfl
theorem neq_act (x y : Ac) (w : World) : (Go.binOp .neq 34 (.agg #[.int .u8 (x.k : Nat), .int .i64 x.c, .int .i64 x.n, .string ⟨x.s.toArray⟩]) (.agg #[.int .u8 (y.k : Nat), .int .i64 y.c, .int .i64 y.n, .string ⟨y.s.toArray⟩])).run Tryz.prog w = .ok (.bool (!decide (x = y))) w := by
  rw [run_neq_struct, eqA]; rfl
/-- Where an act lies. -/
def ActAt (ab o : Nat) (x : Ac) (w : World) : Prop := w.cell? ⟨ab, o, none⟩ = some (.int .u8 (x.k : Nat)) ∧ w.cell? ⟨ab, o + 1, none⟩ = some (.int .i64 x.c) ∧ w.cell? ⟨ab, o + 2, none⟩ = some (.int .i64 x.n) ∧ w.cell? ⟨ab, o + 3, none⟩ = some (.string ⟨x.s.toArray⟩)
theorem act_at {w : World} {a : Option Addr} {n c : Nat} {l : List Ac} (h : Sl w 4 (.slice a n c) n (actsV l)) {i : Nat} {x : Ac} (hx : l[i]? = some x) : ∃ ab ao, a = some ⟨ab, ao, none⟩ ∧ ActAt ab (ao + i * 4) x w ∧ ∀ w', (∀ ad, ad.block = ab → w'.cell? ad = w.cell? ad) → ActAt ab (ao + i * 4) x w' := by
  have hil := (List.getElem?_eq_some_iff.1 hx).1
  obtain ⟨ab, ao, rfl, hc⟩ := sl_addr h (by rw [actsV_length]; omega)
  have hg := flatMap_get (E := aE) (size := 4) (fun _ => rfl) l i x hx
  have key : ∀ j, j < 4 → ∀ u, (aE x)[j]? = some u → w.cell? ⟨ab, ao + i * 4 + j, none⟩ = some u := fun j hj u hu => by
    have := hc (i * 4 + j) u ((hg j hj).trans hu)
    rwa [← Nat.add_assoc] at this
  have h0 : ActAt ab (ao + i * 4) x w := ⟨key 0 (by omega) _ rfl, key 1 (by omega) _ rfl, key 2 (by omega) _ rfl, key 3 (by omega) _ rfl⟩
  exact ⟨ab, ao, rfl, h0, fun w' hw => ⟨(hw _ rfl).trans h0.1, (hw _ rfl).trans h0.2.1, (hw _ rfl).trans h0.2.2.1, (hw _ rfl).trans h0.2.2.2⟩⟩
end Go.Proofs.YtcjlbimmplejjaaGreatDoor.ScJ
