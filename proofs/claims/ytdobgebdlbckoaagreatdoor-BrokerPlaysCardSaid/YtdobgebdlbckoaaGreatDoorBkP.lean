/-
  A broker, as lists: who is a member and how often it published; who hears what; what comes of what a member says. No program is named here.
-/
import Derived.Test.YtdobgebdlbckoaaGreatDoorWdP
import Derived.Test.YtdobgebdlbckoaaGreatDoorTpP
import Derived.Test.YtdobgebdlbckoaaGreatDoorMp
namespace Go.Proofs.YtdobgebdlbckoaaGreatDoor.BkP
open Go Go.Proofs.YtdobgebdlbckoaaGreatDoor.WdP Go.Proofs.YtdobgebdlbckoaaGreatDoor.TpP Go.Proofs.YtdobgebdlbckoaaGreatDoor.Mp

abbrev Pub := List (Int × Nat)
abbrev BS := Pub × List Pr
abbrev Ot := Int × Int × Tx
def isM (b : BS) (id : Int) : Bool := (getM id b.1).isSome
def joinB (b : BS) (id : Int) : Int × BS := if id < 0 ∨ 4611686018427387904 < id then (1, b) else if isM b id = true then (5, b) else (0, (putM id 0 b.1, b.2))
def leaveB (b : BS) (id : Int) : Int × BS := if isM b id = true then (0, (delM id b.1, dropAllP b.2 id)) else (4, b)
def errT (n : Nat) : Tx := (faultW n).getD []
def addQ (l : List Pr) (t : Tx) (k : Int) : List Pr := if (t, k) ∈ l then l else l ++ [(t, k)]
def subB (b : BS) (id : Int) (t : Tx) : List Ot × BS := if (t, id) ∉ b.2 ∧ 8 ≤ (byP b.2 id).length then ([(id, 1, errT 2)], b) else ([], (b.1, addQ b.2 t id))
def unsubB (b : BS) (id : Int) (t : Tx) : List Ot × BS := if (t, id) ∈ b.2 then ([], (b.1, dropP b.2 t id)) else ([(id, 1, errT 3)], b)
def tellT (t : Tx) (id : Int) (n : Nat) (d : Tx) : Tx := (toldW t id n d).getD []
def pubB (b : BS) (id op : Int) (t d : Tx) : List Ot × BS := ((ofP b.2 t).map fun k => (k, op, tellT t id ((getM id b.1).getD 0 + 1) d), (putM id ((getM id b.1).getD 0 + 1) b.1, b.2))
def doB (b : BS) (id op : Int) (s : Tx) : List Ot × BS :=
  if isM b id = true then
    match parseW s with
    | none => ([(id, 1, errT 1)], b)
    | some c => if c.1 = 1 then subB b id c.2.1 else if c.1 = 2 then unsubB b id c.2.1 else pubB b id op c.2.1 c.2.2
  else ([], b)
/-- What may be: the members' numbers, how often they published, how many pairs. -/
structure Okb (b : BS) (m : Nat) : Prop where
  ids : ∀ e ∈ b.1, 0 ≤ e.1 ∧ e.1 ≤ 4611686018427387904 ∧ e.2 ≤ m
  few : b.1.length ≤ m
  prs : b.2.length ≤ m
theorem Okb.nil : Okb ([], []) 0 := ⟨by simp, Nat.le_refl _, Nat.le_refl _⟩
theorem Okb.mono {b : BS} {m n : Nat} (h : Okb b m) (hn : m ≤ n) : Okb b n := ⟨fun e he => ⟨(h.ids e he).1, (h.ids e he).2.1, Nat.le_trans (h.ids e he).2.2 hn⟩, Nat.le_trans h.few hn, Nat.le_trans h.prs hn⟩
theorem putM_mem {κ α : Type} [DecidableEq κ] {k : κ} {v : α} {es : List (κ × α)} {e : κ × α} (h : e ∈ putM k v es) : e ∈ es ∨ e = (k, v) := by
  unfold putM at h
  split at h
  · obtain ⟨e0, h0, rfl⟩ := List.mem_map.1 h
    split
    · exact .inr rfl
    · exact .inl h0
  · rcases List.mem_append.1 h with h | h
    · exact .inl h
    · simp at h; exact .inr h
theorem putM_len {κ α : Type} [DecidableEq κ] (k : κ) (v : α) (es : List (κ × α)) : (putM k v es).length ≤ es.length + 1 := by
  unfold putM
  split
  · simp
  · simp
theorem Okb.put {b : BS} {m : Nat} (h : Okb b m) {id : Int} (h0 : 0 ≤ id) (h1 : id ≤ 4611686018427387904) {n : Nat} (hn : n ≤ m + 1) : Okb (putM id n b.1, b.2) (m + 1) := by
  refine ⟨fun e he => ?_, by have := putM_len id n b.1; have := h.few; simp only; omega, Nat.le_succ_of_le h.prs⟩
  rcases putM_mem he with he | rfl
  · exact ⟨(h.ids e he).1, (h.ids e he).2.1, by have := (h.ids e he).2.2; omega⟩
  · exact ⟨h0, h1, hn⟩
theorem Okb.join {b : BS} {m : Nat} (h : Okb b m) (id : Int) : Okb (joinB b id).2 (m + 1) := by
  unfold joinB
  split
  · exact h.mono (by omega)
  · split
    · exact h.mono (by omega)
    · exact h.put (by omega) (by omega) (by omega)
theorem Okb.leave {b : BS} {m : Nat} (h : Okb b m) (id : Int) : Okb (leaveB b id).2 (m + 1) := by
  unfold leaveB
  split
  · refine (Okb.mono (m := m) ⟨fun e he => h.ids e (List.mem_filter.1 he).1, ?_, ?_⟩ (by omega))
    · exact Nat.le_trans (List.length_filter_le _ _) h.few
    · exact Nat.le_trans (List.length_filter_le _ _) h.prs
  · exact h.mono (by omega)
theorem isM_mem {b : BS} {id : Int} (h : isM b id = true) : ∃ n, getM id b.1 = some n ∧ (id, n) ∈ b.1 := by
  unfold isM at h
  cases e : getM id b.1 with
  | none => rw [e] at h; cases h
  | some n => exact ⟨n, rfl, getM_mem e⟩
theorem Okb.do_ {b : BS} {m : Nat} (h : Okb b m) (id op : Int) (s : Tx) : Okb (doB b id op s).2 (m + 1) := by
  unfold doB
  split
  · rename_i hm
    obtain ⟨n, hn, hmem⟩ := isM_mem hm
    split
    · exact h.mono (by omega)
    · split
      · unfold subB
        split
        · exact h.mono (by omega)
        · refine ⟨fun e he => ⟨(h.ids e he).1, (h.ids e he).2.1, by have := (h.ids e he).2.2; omega⟩, by have := h.few; simp only; omega, ?_⟩
          simp only
          unfold addQ
          split
          · exact Nat.le_succ_of_le h.prs
          · have := h.prs; simp; omega
      · split
        · unfold unsubB
          split
          · exact ⟨fun e he => ⟨(h.ids e he).1, (h.ids e he).2.1, by have := (h.ids e he).2.2; omega⟩, by have := h.few; simp only; omega, Nat.le_succ_of_le (Nat.le_trans (List.length_filter_le _ _) h.prs)⟩
          · exact h.mono (by omega)
        · unfold pubB
          have h2 := h.ids _ hmem
          exact h.put h2.1 h2.2.1 (by rw [hn]; simp only [Option.getD_some]; have := h2.2.2; simp only at this; omega)
  · exact h.mono (by omega)
end Go.Proofs.YtdobgebdlbckoaaGreatDoor.BkP
