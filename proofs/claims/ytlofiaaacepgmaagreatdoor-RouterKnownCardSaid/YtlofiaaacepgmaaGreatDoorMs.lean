/-
  A map of slices of the call's own, in the small separation logic: each key's slice has its own row. No program is named here.
-/
import Derived.Test.YtlofiaaacepgmaaGreatDoorMp
namespace Go.Proofs.YtlofiaaacepgmaaGreatDoor.Ms
set_option linter.unusedSectionVars false
open Go Go.RowKit Go.MapKept Go.Proofs Go.Proofs.YtlofiaaacepgmaaGreatDoor.Sep Go.Proofs.YtlofiaaacepgmaaGreatDoor.Mp

section
variable {κ α : Type} [DecidableEq κ] {enc : κ → Value} {encV : α → Value} {e : TypeId}
abbrev nilS : Value := .slice none 0 0
/-- The rows of some slices, one beside the other. -/
def RowsOf (e : TypeId) (encV : α → Value) : List Value → List (List α) → Asn
  | v :: vs, xs :: ms => star (Row e 1 v xs.length (xs.map encV)) (RowsOf e encV vs ms)
  | _, _ => emp
def MS (enc : κ → Value) (encV : α → Value) (e : TypeId) (b : Nat) (m : List (κ × List α)) : Asn :=
  ex fun es : List (κ × Value) => star (pu (es.map (·.1) = m.map (·.1))) (star (Mp enc b es) (RowsOf e encV (es.map (·.2)) (m.map (·.2))))

theorem row_none : Row e 1 nilS ([] : List α).length (([] : List α).map encV) = emp := Row_nil e 1
/-- The row of one key, taken out. -/
theorem rows_look (k : κ) : ∀ (es : List (κ × Value)) (m : List (κ × List α)), es.map (·.1) = m.map (·.1) → (m.map (·.1)).Nodup →
    RowsOf e encV (es.map (·.2)) (m.map (·.2)) = star (Row e 1 ((getM k es).getD nilS) ((getM k m).getD []).length (((getM k m).getD []).map encV)) (RowsOf e encV ((delM k es).map (·.2)) ((delM k m).map (·.2)))
  | [], [], _, _ => by
    show emp = star (Row e 1 nilS ([] : List α).length (([] : List α).map encV)) emp
    rw [row_none, star_emp]
  | [], _ :: _, h, _ => by cases h
  | _ :: _, [], h, _ => by cases h
  | x :: es, y :: m, h, hn => by
    simp only [List.map_cons, List.cons.injEq] at h
    rw [List.map_cons, List.nodup_cons] at hn
    obtain ⟨h1, h2⟩ := h
    rw [getM_cons, getM_cons]
    by_cases hk : x.1 = k
    · have hk2 : y.1 = k := h1 ▸ hk
      have hm : k ∉ m.map (·.1) := hk2 ▸ hn.1
      have he : k ∉ es.map (·.1) := h2 ▸ hm
      rw [if_pos hk, if_pos hk2]
      have d1 : delM k (x :: es) = es := by unfold delM; rw [List.filter_cons_of_neg (by simpa using hk)]; exact delM_none he
      have d2 : delM k (y :: m) = m := by unfold delM; rw [List.filter_cons_of_neg (by simpa using hk2)]; exact delM_none hm
      rw [d1, d2]
      rfl
    · have hk2 : y.1 ≠ k := fun e1 => hk (h1.trans e1)
      rw [if_neg hk, if_neg hk2]
      have d1 : delM k (x :: es) = x :: delM k es := by unfold delM; rw [List.filter_cons_of_pos (by simpa using hk)]
      have d2 : delM k (y :: m) = y :: delM k m := by unfold delM; rw [List.filter_cons_of_pos (by simpa using hk2)]
      rw [d1, d2]
      show star _ (RowsOf e encV (es.map (·.2)) (m.map (·.2))) = star _ (star _ _)
      rw [rows_look k es m h2 hn.2, star_left_comm]
/-- The rows behind a store. -/
theorem rows_put (k : κ) (v : Value) (xs : List α) : ∀ (es : List (κ × Value)) (m : List (κ × List α)), es.map (·.1) = m.map (·.1) → (m.map (·.1)).Nodup →
    RowsOf e encV ((putM k v es).map (·.2)) ((putM k xs m).map (·.2)) = star (Row e 1 v xs.length (xs.map encV)) (RowsOf e encV ((delM k es).map (·.2)) ((delM k m).map (·.2))) := by
  intro es m h hn
  have hn' : (es.map (·.1)).Nodup := h ▸ hn
  have hk : (putM k v es).map (·.1) = (putM k xs m).map (·.1) := by rw [putM_keys, putM_keys, h]
  rw [rows_look k _ _ hk (putM_nodup hn), getM_put, getM_put, if_pos rfl, if_pos rfl]
  have hd : ∀ {β : Type} (z : β) (l : List (κ × β)), delM k (putM k z l) = delM k l := fun z l => by
    unfold putM
    split
    · unfold delM
      induction l with
      | nil => rfl
      | cons a l ih =>
        rw [List.map_cons]
        by_cases ha : a.1 = k
        · rw [if_pos ha, List.filter_cons_of_neg (by simp), List.filter_cons_of_neg (by simpa using ha)]
          by_cases hm : k ∈ l.map (·.1)
          · rename_i hx; exact ih hm
          · congr 1
            conv => rhs; rw [← List.map_id l]
            refine List.map_congr_left fun x hx => ?_
            rw [if_neg (fun h => hm (by rw [← h]; exact List.mem_map_of_mem (f := (·.1)) hx))]
            rfl
        · rw [if_neg ha, List.filter_cons_of_pos (by simpa using ha), List.filter_cons_of_pos (by simpa using ha)]
          have hm : k ∈ l.map (·.1) := by
            rename_i hx
            rcases List.mem_cons.1 (by simpa using hx : k ∈ a.1 :: l.map (·.1)) with h | h
            · exact absurd h.symm ha
            · exact h
          rw [ih hm]
    · unfold delM
      rw [List.filter_append]
      simp
  rw [hd, hd]
  rfl

variable {W w : World} {b : Nat} {R : Asn} {m : List (κ × List α)}
theorem St.ms (h : St W w (star (MS enc encV e b m) R)) : ∃ es : List (κ × Value), es.map (·.1) = m.map (·.1) ∧ (m.map (·.1)).Nodup ∧ St W w (star (Mp enc b es) (star (RowsOf e encV (es.map (·.2)) (m.map (·.2))) R)) := by
  obtain ⟨es, h⟩ := St.ex_iff.1 h
  obtain ⟨hk, h⟩ := St.pu_iff.1 (h.eq (star_assoc _ _ _))
  have h2 := h.eq (star_assoc _ _ _)
  exact ⟨es, hk, hk ▸ St.mp_nodup h2, h2⟩
theorem St.toMs {es : List (κ × Value)} (hk : es.map (·.1) = m.map (·.1)) (h : St W w (star (Mp enc b es) (star (RowsOf e encV (es.map (·.2)) (m.map (·.2))) R))) : St W w (star (MS enc encV e b m) R) := by
  refine St.ex_iff.2 ⟨es, ?_⟩
  refine St.eq ?_ (star_assoc _ _ _).symm
  exact St.pu_iff.2 ⟨hk, h.eq (star_assoc _ _ _).symm⟩
/-- A map of slices without one key's row: its entries still bear the slice. -/
theorem St.msTake (h : St W w (star (MS enc encV e b m) R)) (k : κ) : ∃ es : List (κ × Value), es.map (·.1) = m.map (·.1) ∧ (m.map (·.1)).Nodup ∧
    St W w (star (Mp enc b es) (star (Row e 1 ((getM k es).getD nilS) ((getM k m).getD []).length (((getM k m).getD []).map encV)) (star (RowsOf e encV ((delM k es).map (·.2)) ((delM k m).map (·.2))) R))) := by
  obtain ⟨es, h1, h2, h3⟩ := St.ms h
  refine ⟨es, h1, h2, h3.eq ?_⟩
  rw [rows_look k es m h1 h2, star_assoc]
theorem St.msBack {es : List (κ × Value)} {k : κ} (h1 : es.map (·.1) = m.map (·.1)) (h2 : (m.map (·.1)).Nodup)
    (h : St W w (star (Mp enc b es) (star (Row e 1 ((getM k es).getD nilS) ((getM k m).getD []).length (((getM k m).getD []).map encV)) (star (RowsOf e encV ((delM k es).map (·.2)) ((delM k m).map (·.2))) R)))) : St W w (star (MS enc encV e b m) R) := by
  refine St.toMs h1 (h.eq ?_)
  rw [rows_look k es m h1 h2, star_assoc]
theorem St.msPut {es : List (κ × Value)} {k : κ} {v : Value} {xs : List α} (h1 : es.map (·.1) = m.map (·.1)) (h2 : (m.map (·.1)).Nodup)
    (h : St W w (star (Mp enc b (putM k v es)) (star (Row e 1 v xs.length (xs.map encV)) (star (RowsOf e encV ((delM k es).map (·.2)) ((delM k m).map (·.2))) R)))) : St W w (star (MS enc encV e b (putM k xs m)) R) := by
  refine St.toMs (es := putM k v es) (by rw [putM_keys, putM_keys, h1]) (h.eq ?_)
  rw [rows_put k v xs es m h1 h2, star_assoc]
/-- A key struck: its row is let go. -/
theorem St.msDel {es : List (κ × Value)} {k : κ} (h1 : es.map (·.1) = m.map (·.1))
    (h : St W w (star (Mp enc b (delM k es)) (star (Row e 1 ((getM k es).getD nilS) ((getM k m).getD []).length (((getM k m).getD []).map encV)) (star (RowsOf e encV ((delM k es).map (·.2)) ((delM k m).map (·.2))) R)))) : St W w (star (MS enc encV e b (delM k m)) R) := by
  refine St.toMs (es := delM k es) (by rw [delM_keys, delM_keys, h1]) ?_
  exact (h.eq (star_left_comm _ _ _)).right
theorem St.newMs (enc : κ → Value) (encV : α → Value) (e : TypeId) (h : St W w R) : St W (w.alloc (.map #[] 0)) (star (MS enc encV e w.heap.size []) R) := by
  refine St.toMs (es := []) rfl ?_
  have := St.newMp enc h
  exact this.eq (by rw [show RowsOf e encV (([] : List (κ × Value)).map (·.2)) (([] : List (κ × List α)).map (·.2)) = emp from rfl, emp_star])
end
end Go.Proofs.YtlofiaaacepgmaaGreatDoor.Ms
