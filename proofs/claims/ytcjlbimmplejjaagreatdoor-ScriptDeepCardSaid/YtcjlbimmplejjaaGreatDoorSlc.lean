/-
  append within its room, copy, clear, on a slice of the call's own: what the row holds behind them. No program is named here.
-/
import Derived.Test.YtcjlbimmplejjaaGreatDoorGen
import Derived.Laws.CopyRow
import Derived.ArgAppend
import Derived.Lib.AppendZerosOnto
namespace Go.Proofs.YtcjlbimmplejjaaGreatDoor.Slc
open Go Go.RowKit Go.Proofs.YtcjlbimmplejjaaGreatDoor.Sep

/-- A row's cells with others in the place of some. -/
def spl (cs : List Value) (o : Nat) (news : List Value) : List Value := cs.take o ++ news ++ cs.drop (o + news.length)
theorem spl_len {cs news : List Value} {o : Nat} (h : o + news.length ≤ cs.length) : (spl cs o news).length = cs.length := by
  simp [spl]; omega

section
variable {P : Program} {W w : World} {g : Nat} {cur : Array Value} {T : TypeId} {R : Asn}
theorem St.spl (h : St W w (star (pt g (.cells cur T (0, 0))) R)) (o : Nat) (news : List Value) : St W (w.setRow g (spl cur.toList o news).toArray) (star (pt g (.cells (spl cur.toList o news).toArray T (0, 0))) R) := h.setRow _

/-- append within the room that there is. -/
theorem run_append_spl (h : St W w (star (pt g (.cells cur T (0, 0))) R)) (t ty e : TypeId) (size : Nat) (ht : P.underlying t = some (.slice e)) (hi : (P.info? e).map (·.size) = some size)
    (o n cap : Nat) (a : Option Addr) (m c : Nat) (news : List Value) (hsl : Sl w size (.slice a m c) m news) (h1 : ∀ u ∈ news, u.oneCell' = true) (hroom : n + m ≤ cap) (hfit : o + n * size + news.length ≤ cur.size) :
    (Builtin.append_ #[t, t] ty #[.slice (some ⟨g, o, none⟩) n cap, .slice a m c]).run P w = .ok (.slice (some ⟨g, o, none⟩) (n + m) cap) (w.setRow g (spl cur.toList (o + n * size) news).toArray) := by
  obtain ⟨i, hq, hsz⟩ := Option.map_eq_some_iff.1 hi
  subst hsz
  clear hi
  obtain ⟨hl, a', c', hv, h2, h3, h4, h5⟩ := hsl
  cases hv
  have hst := fun w hg => run_storeCells_at P g (o + n * i.size) T news 0 cur w hg (by simpa using hfit) h1
  cases a with
  | none =>
    have hm : m = 0 := by have := h4 rfl; omega
    subst hm
    have hn : news = [] := List.eq_nil_of_length_eq_zero (by simpa using hl)
    subst hn
    have := hst w h.blk
    simp only [storeCells, Nat.add_zero, List.append_nil, List.length_nil, List.take_append_drop, Array.toArray_toList] at this
    have hself : w.setRow g (Slc.spl cur.toList (o + n * i.size) []).toArray = w := by
      have : (Slc.spl cur.toList (o + n * i.size) []).toArray = cur := by simp [Slc.spl]
      rw [this]; exact setRow_self w g cur T (0, 0) h.blk
    rw [hself]
    simp [Builtin.append_, run_underlying ht, sizeOf, typeInfo, hq, Builtin.lenOf, Builtin.firstCells, loadCells, storeCells]
    omega
  | some ad =>
    have hfc := run_firstCells_some (P := P) w i.size m ad m c news hl (h5 ad rfl)
    have := hst w h.blk
    simp only [Nat.add_zero] at this
    simp [Builtin.append_, run_underlying ht, sizeOf, typeInfo, hq, Builtin.lenOf, hroom, hfc, Addr.add_lit, this, Slc.spl]
/-- copy into the row at o. -/
theorem run_copy_spl (h : St W w (star (pt g (.cells cur T (0, 0))) R)) (dT sT ty e : TypeId) (size : Nat) (ht : P.underlying dT = some (.slice e)) (hi : (P.info? e).map (·.size) = some size)
    (o dLen dCap : Nat) (a : Option Addr) (m c : Nat) (news : List Value) (hl : news.length = min m dLen * size) (hsrc : ∀ ad, a = some ad → ∀ j u, news[j]? = some u → w.cell? (ad.add j) = some u) (hn0 : a = none → m = 0) (h1 : ∀ u ∈ news, u.oneCell' = true) (hfit : o + news.length ≤ cur.size) :
    (Builtin.copy_ #[dT, sT] ty #[.slice (some ⟨g, o, none⟩) dLen dCap, .slice a m c]).run P w = .ok (goInt ((min m dLen : Nat) : Int)) (w.setRow g (spl cur.toList o news).toArray) := by
  obtain ⟨i, hq, hsz⟩ := Option.map_eq_some_iff.1 hi
  subst hsz
  clear hi
  have hst := run_storeCells_at P g o T news 0 cur w h.blk (by simpa using hfit) h1
  simp only [Nat.add_zero] at hst
  cases a with
  | none =>
    have hm : m = 0 := hn0 rfl
    subst hm
    have hn : news = [] := List.eq_nil_of_length_eq_zero (by simpa using hl)
    subst hn
    have hself : w.setRow g (Slc.spl cur.toList o []).toArray = w := by
      have : (Slc.spl cur.toList o []).toArray = cur := by simp [Slc.spl]
      rw [this]; exact setRow_self w g cur T (0, 0) h.blk
    rw [hself]
    simp [Builtin.copy_, run_underlying ht, Builtin.lenOf, Builtin.firstCells, sizeOf, typeInfo, hq, storeCells, Nat.min_def]
  | some ad =>
    have hfc := run_firstCells_some (P := P) w i.size (min m dLen) ad m c news hl (hsrc ad rfl)
    simp [Builtin.copy_, run_underlying ht, Builtin.lenOf, sizeOf, typeInfo, hq, show m.min dLen = min m dLen from rfl, hfc, hst, Slc.spl]

/-- clear of m elements at o. -/
theorem run_clear_spl (h : St W w (star (pt g (.cells cur T (0, 0))) R)) (t ty e : TypeId) (z : Value) (ht : P.underlying t = some (.slice e)) (hz : ∀ w, (zeroValue e).run P w = .ok z w) (h1 : ∀ u ∈ z.cells.toList, u.oneCell' = true)
    (o m c : Nat) (hm : 0 < m) (hfit : o + m * z.cells.size ≤ cur.size) :
    (Builtin.clear_ #[t] ty #[.slice (some ⟨g, o, none⟩) m c]).run P w = .ok (.tuple #[]) (w.setRow g (spl cur.toList o (Builtin.zeroCells z.cells m).toList).toArray) := by
  have hs : (Builtin.zeroCells z.cells m).toList.length = m * z.cells.size := by simp [size_zeroCells]
  have hst := run_storeCells_at P g o T (Builtin.zeroCells z.cells m).toList 0 cur w h.blk (by simp [size_zeroCells]; omega) (fun v hv => by
    simp only [Builtin.zeroCells, Array.toList_map, Array.toList_range, List.mem_map, List.mem_range] at hv
    obtain ⟨k, hk0, rfl⟩ := hv
    have : z.cells.size ≠ 0 := by
      intro h0
      rw [h0, Nat.mul_zero] at hk0
      omega
    have hk : k % z.cells.size < z.cells.size := Nat.mod_lt _ (by omega)
    refine h1 _ ?_
    simp [hk])
  simp only [Nat.add_zero] at hst
  obtain ⟨m, rfl⟩ : ∃ k, m = k + 1 := ⟨m - 1, by omega⟩
  simp [Builtin.clear_, run_underlying ht, hz, hst, Slc.spl]
/-! ### In a walk: the run of a builtin is at hand -/
theorem wpList_append_run {ops : Array Oper} {rest : List Oper} {o : Oper} {a : Act} {Q : Exit → Act → World → Prop} {v : Value} {w' : World} (hgd : o.guard = none) (s x : Operand) (t u : TypeId)
    (ho : o.op = .call { callee := .builtin .append, args := #[s, x], argTypes := #[t, u] }) (hr : (Builtin.append_ #[t, u] o.type #[a.eval s, a.eval x]).run P w = .ok v w')
    (h : wpList P ops Q rest (a.put o.dst v) w') : wpList P ops Q (o :: rest) a w := by
  refine wpList_plain hgd fun _ hK => ?_
  unfold Oper.wp execOp
  simp only [ho, resolve, invoke, builtin, Sem.run_bind, Sem.run_pure, Result.andThen_ok, List.map_toArray, List.map_cons, List.map_nil, hr]
  exact hK _ _ h
theorem wpList_copy_run {ops : Array Oper} {rest : List Oper} {o : Oper} {a : Act} {Q : Exit → Act → World → Prop} {v : Value} {w' : World} (hgd : o.guard = none) (s x : Operand) (t u : TypeId)
    (ho : o.op = .call { callee := .builtin .copy, args := #[s, x], argTypes := #[t, u] }) (hr : (Builtin.copy_ #[t, u] o.type #[a.eval s, a.eval x]).run P w = .ok v w')
    (h : wpList P ops Q rest (a.put o.dst v) w') : wpList P ops Q (o :: rest) a w := by
  refine wpList_plain hgd fun _ hK => ?_
  unfold Oper.wp execOp
  simp only [ho, resolve, invoke, builtin, Sem.run_bind, Sem.run_pure, Result.andThen_ok, List.map_toArray, List.map_cons, List.map_nil, hr]
  exact hK _ _ h
theorem wpList_clear_run {ops : Array Oper} {rest : List Oper} {o : Oper} {a : Act} {Q : Exit → Act → World → Prop} {v : Value} {w' : World} (hgd : o.guard = none) (s : Operand) (t : TypeId)
    (ho : o.op = .call { callee := .builtin .clear, args := #[s], argTypes := #[t] }) (hr : (Builtin.clear_ #[t] o.type #[a.eval s]).run P w = .ok v w')
    (h : wpList P ops Q rest (a.put o.dst v) w') : wpList P ops Q (o :: rest) a w := by
  refine wpList_plain hgd fun _ hK => ?_
  unfold Oper.wp execOp
  simp only [ho, resolve, invoke, builtin, Sem.run_bind, Sem.run_pure, Result.andThen_ok, List.map_toArray, List.map_cons, List.map_nil, hr]
  exact hK _ _ h

/-! ### Pieces of a slice at the head of its own row -/
theorem run_head (t e : TypeId) (size : Nat) (ht : P.underlying t = some (.slice e)) (hs : (P.info? e).map (·.size) = some size) (g n cap j : Nat) (hj : j ≤ cap) (x : Int) (hx : x = j) (w : World) :
    (Instr.slice t (.slice (some ⟨g, 0, none⟩) n cap) none (some (.int .i64 x)) none).run P w = .ok (.slice (some ⟨g, 0, none⟩) j cap) w := by
  subst hx
  rw [run_cut_h t e size ht hs _ n cap j hj w]
  unfold cutV
  simp only [Nat.zero_mul, Nat.sub_zero, Option.map_some]
  rw [show (⟨g, 0, none⟩ : Addr).add 0 = ⟨g, 0, none⟩ from rfl, ite_self]
theorem run_three (t e : TypeId) (size : Nat) (ht : P.underlying t = some (.slice e)) (hs : (P.info? e).map (·.size) = some size) (a : Option Addr) (n c i j m : Nat) (x y z : Int) (hx : x = i) (hy : y = j) (hz : z = m) (h1 : i ≤ j) (h2 : j ≤ m) (h3 : m ≤ c) (w : World) :
    (Instr.slice t (.slice a n c) (some (.int .i64 x)) (some (.int .i64 y)) (some (.int .i64 z))).run P w = .ok (.slice (if m = i then a else a.map (·.add (i * size))) (j - i) (m - i)) w := by
  subst hx; subst hy; subst hz
  obtain ⟨inf, hi, hsz⟩ := Option.map_eq_some_iff.1 hs
  simp [Instr.slice, run_underlying ht, Instr.sliceBounds, run_sliceBound, sizeOf, typeInfo, hi, h1, h2, h3, ← hsz]
theorem cut_tail (g cap i n size : Nat) (hi : i < cap) : cutV (some ⟨g, 0, none⟩) cap i n size = .slice (some ⟨g, i * size, none⟩) (n - i) (cap - i) := by
  unfold cutV
  rw [if_neg (by omega), Option.map_some]
  congr 2
  unfold Addr.add; split <;> simp_all
theorem spl_take {cs news : List Value} {o k : Nat} (h : k = o + news.length) (ho : o ≤ cs.length) : (spl cs o news).take k = cs.take o ++ news := by
  subst h
  unfold spl
  have : (cs.take o ++ news).length = o + news.length := by simp [ho]
  rw [← this, List.take_left]
theorem spl_take_le {cs news : List Value} {o k : Nat} (h : k ≤ o) (ho : o ≤ cs.length) : (spl cs o news).take k = cs.take k := by
  unfold spl
  rw [List.append_assoc, List.take_append_of_le_length (by simp; omega), List.take_take]
  congr 1; omega
end
end Go.Proofs.YtcjlbimmplejjaaGreatDoor.Slc
