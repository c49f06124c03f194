/-
  The blocks that stand open, in memory. 
-/
import Derived.Test.YtcjlbimmplejjaaGreatDoorScC
import Derived.Test.YtcjlbimmplejjaaGreatDoorSlc
namespace Go.Proofs.YtcjlbimmplejjaaGreatDoor.ScG
open Go Go.RowKit Go.Proofs Go.Proofs.YtcjlbimmplejjaaGreatDoor.Sep Go.Proofs.YtcjlbimmplejjaaGreatDoor.Reg Go.Proofs.YtcjlbimmplejjaaGreatDoor.Frame Go.Proofs.YtcjlbimmplejjaaGreatDoor.Mp Go.Proofs.YtcjlbimmplejjaaGreatDoor.WdP Go.Proofs.YtcjlbimmplejjaaGreatDoor.WdT Go.Proofs.YtcjlbimmplejjaaGreatDoor.WdN Go.Proofs.YtcjlbimmplejjaaGreatDoor.ScP Go.Proofs.YtcjlbimmplejjaaGreatDoor.ScQ Go.Proofs.YtcjlbimmplejjaaGreatDoor.ScT Go.Proofs.YtcjlbimmplejjaaGreatDoor.ScM

/-- A block's cells; v holds its acts. -/
def blE (x : Blk × Value) : List Value := [x.2, .int .i64 (x.1.many : Int), .int .i64 (x.1.times : Int), .int .i64 (x.1.line : Int)]
def blV (ms : List (Blk × Value)) : List Value := ms.flatMap blE
theorem blV_append (a b : List (Blk × Value)) : blV (a ++ b) = blV a ++ blV b := by simp [blV]
theorem blV_length (l : List (Blk × Value)) : (blV l).length = l.length * 4 := by
  induction l with
  | nil => rfl
  | cons x l ih => simp only [blV, List.flatMap_cons, List.length_append, List.length_cons] at ih ⊢; rw [ih]; simp [blE]; omega
/-- The rows of their acts. -/
def Bks : List (Blk × Value) → Asn
  | [] => emp
  | x :: r => star (Row 34 4 x.2 x.1.l.length (actsV x.1.l)) (Bks r)
theorem Bks_append : ∀ (a b : List (Blk × Value)), Bks (a ++ b) = star (Bks a) (Bks b)
  | [], b => by show Bks b = star emp (Bks b); rw [emp_star]
  | x :: a, b => by
    show star _ (Bks (a ++ b)) = star (star _ (Bks a)) (Bks b)
    rw [Bks_append a b]; ac_rfl
theorem Bks_one (x : Blk × Value) : Bks [x] = Row 34 4 x.2 x.1.l.length (actsV x.1.l) := by
  show star _ emp = _; rw [star_emp]
def stk (ms : List (Blk × Value)) : List Blk := (ms.map (·.1)).reverse
theorem stk_top (pre : List (Blk × Value)) (x : Blk × Value) : stk (pre ++ [x]) = x.1 :: stk pre := by simp [stk]
theorem stk_len (ms : List (Blk × Value)) : (stk ms).length = ms.length := by simp [stk]
theorem top_of {ms : List (Blk × Value)} (h : ms ≠ []) : ∃ pre x, ms = pre ++ [x] := ⟨ms.dropLast, ms.getLast h, (List.dropLast_concat_getLast h).symm⟩
/-- One block's acts and their number, set. -/
theorem set_rows {cur cur' : Array Value} {pre : List (Blk × Value)} {b b' : Blk} {v v' : Value} {post : List (Blk × Value)} {n : Nat} (hn : n = (pre ++ (b, v) :: post).length) (hc : cur.toList.take (n * 4) = blV (pre ++ (b, v) :: post))
    (_ : cur'.size = cur.size) (h0 : cur'[pre.length * 4]? = some v') (h1 : cur'[pre.length * 4 + 1]? = some (.int .i64 (b'.many : Nat))) (hk : ∀ j, j ≠ pre.length * 4 → j ≠ pre.length * 4 + 1 → cur'[j]? = cur[j]?) (ht : b'.times = b.times) (hl : b'.line = b.line) :
    cur'.toList.take (n * 4) = blV (pre ++ (b', v') :: post) := by
  have hcl := congrArg List.length hc
  rw [List.length_take, blV_length, ← hn] at hcl
  have hsz : n * 4 ≤ cur.size := by rw [← Array.length_toList]; omega
  have hpl : pre.length < n := by rw [hn]; simp
  refine List.ext_getElem? fun j => ?_
  by_cases hj : j < n * 4
  · rw [List.getElem?_take_of_lt hj, Array.getElem?_toList]
    have hcj : cur[j]? = (blV (pre ++ (b, v) :: post))[j]? := by rw [← hc, List.getElem?_take_of_lt hj, Array.getElem?_toList]
    have hi : j / 4 < n := by omega
    have hr : j % 4 < 4 := Nat.mod_lt _ (by omega)
    have he : j / 4 * 4 + j % 4 = j := by omega
    have hlen : (pre ++ (b', v') :: post).length = n := by rw [hn]; simp
    by_cases hp : j / 4 = pre.length
    · have g1 := flatMap_get (E := blE) (size := 4) (fun _ => rfl) (pre ++ (b', v') :: post) (j / 4) (b', v') (by rw [hp]; simp) (j % 4) hr
      have g2 := flatMap_get (E := blE) (size := 4) (fun _ => rfl) (pre ++ (b, v) :: post) (j / 4) (b, v) (by rw [hp]; simp) (j % 4) hr
      rw [he] at g1 g2
      show _ = (blV _)[j]?
      unfold blV at hcj ⊢
      rw [g1]
      have h4 : j % 4 = 0 ∨ j % 4 = 1 ∨ j % 4 = 2 ∨ j % 4 = 3 := by omega
      rcases h4 with h | h | h | h
      · rw [h, show j = pre.length * 4 from by omega, h0]; rfl
      · rw [h, show j = pre.length * 4 + 1 from by omega, h1]; rfl
      · rw [hk j (by omega) (by omega), hcj, g2, h]; simp [blE, ht]
      · rw [hk j (by omega) (by omega), hcj, g2, h]; simp [blE, hl]
    · obtain ⟨y, hy⟩ : ∃ y, (pre ++ (b', v') :: post)[j / 4]? = some y := ⟨_, List.getElem?_eq_getElem (by rw [hlen]; exact hi)⟩
      have hy2 : (pre ++ (b, v) :: post)[j / 4]? = some y := by
        rw [← hy]
        rcases Nat.lt_or_gt_of_ne hp with h | h
        · rw [List.getElem?_append_left h, List.getElem?_append_left h]
        · rw [List.getElem?_append_right (by omega), List.getElem?_append_right (by omega)]
          obtain ⟨d, hd⟩ : ∃ d, j / 4 - pre.length = d + 1 := ⟨j / 4 - pre.length - 1, by omega⟩
          rw [hd]; rfl
      have g1 := flatMap_get (E := blE) (size := 4) (fun _ => rfl) _ (j / 4) y hy (j % 4) hr
      have g2 := flatMap_get (E := blE) (size := 4) (fun _ => rfl) _ (j / 4) y hy2 (j % 4) hr
      rw [he] at g1 g2
      unfold blV at hcj ⊢
      rw [g1, hk j (by omega) (by omega), hcj, g2]
  · have e1 : (pre ++ (b', v') :: post).length = n := by rw [hn]; simp
    rw [List.getElem?_eq_none (by rw [List.length_take]; omega), List.getElem?_eq_none (by rw [blV_length, e1]; omega)]
theorem addB_l (c : Blk) (l : List Ac) (m t : Nat) : (addB c l m t).l = (addB ⟨c.l, c.many, 0, 0⟩ l m t).l ∧ (addB c l m t).many = (addB ⟨c.l, c.many, 0, 0⟩ l m t).many := by
  have := addB_at ⟨c.l, c.many, 0, 0⟩ l m t c.times c.line
  simp only at this
  rw [this]
  exact ⟨rfl, rfl⟩
def zB : Value := .agg #[.slice none 0 0, .int .i64 0, .int .i64 0, .int .i64 0]
theorem infoBk : (Tryz.prog.info? 52).map (fun i => (i.zero, i.size, i.bytes)) = some (some zB, 4, 48) := by kernel_rfl
theorem sizeBk : (Tryz.prog.info? 52).map (·.size) = some 4 := by kernel_rfl
theorem blV_one (l : List (Blk × Value)) (h : ∀ x ∈ l, x.2.oneCell' = true) : ∀ u ∈ blV l, u.oneCell' = true := by
  intro u hu
  obtain ⟨x, hx, hu⟩ := List.mem_flatMap.1 hu
  simp only [blE, List.mem_cons, List.not_mem_nil, or_false] at hu
  rcases hu with rfl | rfl | rfl | rfl
  · exact h x hx
  all_goals rfl
end Go.Proofs.YtcjlbimmplejjaaGreatDoor.ScG
