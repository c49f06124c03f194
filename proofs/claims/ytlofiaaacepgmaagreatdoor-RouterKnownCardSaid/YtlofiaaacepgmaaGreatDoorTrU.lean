/-
  Tries: what is found does not hang on the order in which patterns were added. No program is named here.
-/
import Derived.Test.YtlofiaaacepgmaaGreatDoorTrR
namespace Go.Proofs.YtlofiaaacepgmaaGreatDoor.TrU
open Go Go.RowKit Go.Proofs Go.Proofs.YtlofiaaacepgmaaGreatDoor.Sep Go.Proofs.YtlofiaaacepgmaaGreatDoor.Frame Go.Proofs.YtlofiaaacepgmaaGreatDoor.PathP Go.Proofs.YtlofiaaacepgmaaGreatDoor.Mp Go.Proofs.YtlofiaaacepgmaaGreatDoor.TrP Go.Proofs.YtlofiaaacepgmaaGreatDoor.TrM Go.Proofs.YtlofiaaacepgmaaGreatDoor.TrQ Go.Proofs.YtlofiaaacepgmaaGreatDoor.TrR

theorem findT_congr {α : Type} {es fs : Ents α} (h : ∀ k, getM k es = getM k fs) (path : List Tx) : findT es path = findT fs path := by
  unfold findT
  rw [best_congr es fs (fun k => by rw [h k]) path []]
  cases bestE fs [] path with
  | none => rfl
  | some k => simp only [h k]
theorem getM_perm {κ α : Type} [DecidableEq κ] {es fs : List (κ × α)} (hp : fs.Perm es) (hn : (es.map (·.1)).Nodup) (k : κ) : getM k fs = getM k es := by
  have hn2 : (fs.map (·.1)).Nodup := ((hp.map (·.1)).nodup_iff).2 hn
  cases e : getM k es with
  | some v => exact getM_of_mem hn2 (hp.mem_iff.2 (getM_mem e))
  | none =>
    cases e2 : getM k fs with
    | none => rfl
    | some v =>
      have := getM_of_mem hn (hp.mem_iff.1 (getM_mem e2))
      rw [e] at this; cases this
def keyP (p : Tx) : List Key := keysOf ((splitP p).getD [])
def entOf (p : Tx) : List Key × Tx × Value := (keyP p, p, .string ⟨p.toArray⟩)
def entsOf (l : List Tx) : EntsV := l.map entOf
/-- Each pattern has itself. -/
def Self (es : EntsV) : Prop := ∀ e ∈ es, e.2.2 = .string ⟨e.2.1.toArray⟩
theorem Self.nil : Self [] := by simp [Self]
theorem Self.add {es : EntsV} (h : Self es) (max : Int) (p : Tx) : Self (addT es max p (.string ⟨p.toArray⟩)).2 := by
  unfold addT
  split
  · exact h
  · split
    · exact h
    · split
      · exact h
      · intro e he
        rcases List.mem_append.1 he with he | he
        · exact h e he
        · simp at he; subst he; rfl
theorem ents_pats {es : EntsV} (hg : TrP.Good es) (hs : Self es) : entsOf (es.map fun e => e.2.1) = es := by
  unfold entsOf
  rw [List.map_map]
  conv => rhs; rw [← List.map_id es]
  refine List.map_congr_left fun e he => ?_
  obtain ⟨l, hl, hk⟩ := hg.2 e he
  have h2 := hs e he
  obtain ⟨k, p, x⟩ := e
  simp only at hl hk h2
  simp only [Function.comp, entOf, keyP, hl, Option.getD_some, id]
  rw [hk, h2]
theorem keyP_nodup {es : EntsV} (hg : TrP.Good es) (hs : Self es) : ((es.map fun e => e.2.1).map keyP).Nodup := by
  have := hg.1
  rw [← ents_pats hg hs] at this
  unfold entsOf at this
  rw [List.map_map] at this
  exact this
theorem ents_keys (l : List Tx) : (entsOf l).map (·.1) = l.map keyP := by
  unfold entsOf; rw [List.map_map]; rfl
/-- The next of a list without twins is added. -/
theorem add_next {l : List Tx} {i : Nat} {p : Tx} (hn : (l.map keyP).Nodup) (hp : l[i]? = some p) (hs : ∃ k, splitP p = some k) (hi : i < 40) :
    addT (entsOf (l.take i)) 40 p (.string ⟨p.toArray⟩) = (0, entsOf (l.take (i + 1))) := by
  obtain ⟨k, hk⟩ := hs
  have hkp : keysOf k = keyP p := by unfold keyP; rw [hk]; rfl
  have hno : getM (keysOf k) (entsOf (l.take i)) = none := by
    rw [getM_none, ents_keys, hkp]
    intro hm
    obtain ⟨q, hq, e⟩ := List.mem_map.1 hm
    obtain ⟨j, hj⟩ := List.getElem?_of_mem hq
    rw [List.getElem?_take] at hj
    split at hj
    · rename_i hji
      obtain ⟨h1, e1⟩ := List.getElem?_eq_some_iff.1 hj
      obtain ⟨h2, e2⟩ := List.getElem?_eq_some_iff.1 hp
      have := (List.pairwise_iff_getElem.1 hn) j i (by simpa using h1) (by simpa using h2) hji
      simp only [List.getElem_map, e1, e2] at this
      exact this e
    · cases hj
  unfold addT
  rw [hk]
  simp only [hno, Option.isSome_none, Bool.false_eq_true, if_false]
  rw [if_neg (by
    have : (entsOf (l.take i)).length ≤ i := by unfold entsOf; rw [List.length_map, List.length_take]; omega
    omega)]
  rw [take_snoc l i p hp]
  unfold entsOf
  rw [List.map_append]
  show (0, _) = (0, _ ++ [entOf p])
  unfold entOf
  rw [hkp]
/-- Turned by k. -/
def rot (l : List Tx) (k : Nat) : List Tx := l.drop k ++ l.take k
theorem rot_perm (l : List Tx) (k : Nat) : (rot l k).Perm l := by
  unfold rot
  refine List.perm_append_comm.trans ?_
  rw [List.take_append_drop]
theorem rot_get (l : List Tx) (k i : Nat) (hk : k < l.length) (hi : i < l.length) : (rot l k)[i]? = l[(i + k) % l.length]? := by
  unfold rot
  by_cases h : i < l.length - k
  · rw [List.getElem?_append_left (by simpa using h), List.getElem?_drop, Nat.mod_eq_of_lt (by omega), Nat.add_comm]
  · rw [List.getElem?_append_right (by simp; omega), List.length_drop, List.getElem?_take, if_pos (by omega)]
    have : (i + k) % l.length = i - (l.length - k) := by
      rw [Nat.mod_eq_sub_mod (by omega), Nat.mod_eq_of_lt (by omega)]
      omega
    rw [this]
theorem same_find {l m : List Tx} (hp : m.Perm l) (hn : (l.map keyP).Nodup) (path : List Tx) : findT (entsOf m) path = findT (entsOf l) path :=
  findT_congr (fun k => getM_perm (hp.map entOf) (by show ((entsOf l).map (·.1)).Nodup; rw [ents_keys]; exact hn) k) path
/-- What Find hands back, of texts that are their patterns. -/
def OutS (o : Option (Tx × Value × List TrQ.Fd)) (p : Tx) (ps : List TrQ.Fd) (ok : Bool) : Prop :=
  (o = none ∧ p = [] ∧ ps = [] ∧ ok = false) ∨ (o = some (p, .string ⟨p.toArray⟩, ps) ∧ ok = true)
theorem OutS.same {o : Option (Tx × Value × List TrQ.Fd)} {p p' : Tx} {ps ps' : List TrQ.Fd} {ok ok' : Bool} (h : OutS o p ps ok) (h' : OutS o p' ps' ok') : p = p' ∧ ps = ps' ∧ ok = ok' := by
  rcases h with ⟨h1, rfl, rfl, rfl⟩ | ⟨h1, rfl⟩ <;> rcases h' with ⟨h2, rfl, rfl, rfl⟩ | ⟨h2, rfl⟩
  · exact ⟨rfl, rfl, rfl⟩
  · rw [h1] at h2; cases h2
  · rw [h1] at h2; cases h2
  · rw [h1] at h2
    cases h2
    exact ⟨rfl, rfl, rfl⟩
end Go.Proofs.YtlofiaaacepgmaaGreatDoor.TrU
