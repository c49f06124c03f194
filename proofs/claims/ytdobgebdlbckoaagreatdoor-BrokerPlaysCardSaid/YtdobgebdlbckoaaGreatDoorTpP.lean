/-
  Topics, as a plain list of pairs, beside two lists of keys with lists. No program is named here.
-/
import Derived.Test.YtdobgebdlbckoaaGreatDoorMp
import Derived.Sort.KeysCollected
namespace Go.Proofs.YtdobgebdlbckoaaGreatDoor.TpP
open Go.Proofs.YtdobgebdlbckoaaGreatDoor.Mp
set_option linter.unusedSectionVars false

abbrev Tx := List UInt8
abbrev Pr := Tx × Int
def ofP (w : List Pr) (t : Tx) : List Int := (w.filter fun x => decide (x.1 = t)).map (·.2)
def byP (w : List Pr) (k : Int) : List Tx := (w.filter fun x => decide (x.2 = k)).map (·.1)
def nz {α : Type} (l : List α) : Option (List α) := if l.isEmpty then none else some l
/-- The two maps are of these pairs. -/
structure RelT (who : List (Tx × List Int)) (what : List (Int × List Tx)) (w : List Pr) : Prop where
  nd : w.Nodup
  who : ∀ t, getM t who = nz (ofP w t)
  what : ∀ k, getM k what = nz (byP w k)
theorem RelT.nil : RelT [] [] [] := ⟨List.nodup_nil, fun _ => rfl, fun _ => rfl⟩

theorem mem_ofP {w : List Pr} {t : Tx} {k : Int} : k ∈ ofP w t ↔ (t, k) ∈ w := by
  unfold ofP
  simp only [List.mem_map, List.mem_filter, decide_eq_true_eq]
  constructor
  · rintro ⟨⟨a, b⟩, ⟨h1, rfl⟩, rfl⟩; exact h1
  · intro h; exact ⟨_, ⟨h, rfl⟩, rfl⟩
theorem mem_byP {w : List Pr} {t : Tx} {k : Int} : t ∈ byP w k ↔ (t, k) ∈ w := by
  unfold byP
  simp only [List.mem_map, List.mem_filter, decide_eq_true_eq]
  constructor
  · rintro ⟨⟨a, b⟩, ⟨h1, rfl⟩, rfl⟩; exact h1
  · intro h; exact ⟨_, ⟨h, rfl⟩, rfl⟩
theorem ofP_nodup {w : List Pr} (h : w.Nodup) (t : Tx) : (ofP w t).Nodup := by
  unfold ofP List.Nodup
  rw [List.pairwise_map]
  refine (List.Pairwise.imp_of_mem ?_ (h.filter (fun x => decide (x.1 = t))))
  intro a b ha hb hne e
  simp only [List.mem_filter, decide_eq_true_eq] at ha hb
  exact hne (Prod.ext (ha.2.trans hb.2.symm) e)
theorem byP_nodup {w : List Pr} (h : w.Nodup) (k : Int) : (byP w k).Nodup := by
  unfold byP List.Nodup
  rw [List.pairwise_map]
  refine (List.Pairwise.imp_of_mem ?_ (h.filter (fun x => decide (x.2 = k))))
  intro a b ha hb hne e
  simp only [List.mem_filter, decide_eq_true_eq] at ha hb
  exact hne (Prod.ext e (ha.2.trans hb.2.symm))
theorem ofP_append (w v : List Pr) (t : Tx) : ofP (w ++ v) t = ofP w t ++ ofP v t := by simp [ofP]
theorem byP_append (w v : List Pr) (k : Int) : byP (w ++ v) k = byP w k ++ byP v k := by simp [byP]
theorem ofP_one (t t' : Tx) (k : Int) : ofP [(t, k)] t' = if t' = t then [k] else [] := by
  unfold ofP
  by_cases h : t = t'
  · subst h; simp
  · rw [if_neg (fun e => h e.symm)]; simp [h]
theorem byP_one (t : Tx) (k k' : Int) : byP [(t, k)] k' = if k' = k then [t] else [] := by
  unfold byP
  by_cases h : k = k'
  · subst h; simp
  · rw [if_neg (fun e => h e.symm)]; simp [h]
def dropP (w : List Pr) (t : Tx) (k : Int) : List Pr := w.filter fun x => decide (x ≠ (t, k))
theorem ofP_drop (w : List Pr) (t t' : Tx) (k : Int) : ofP (dropP w t k) t' = if t' = t then (ofP w t).filter (fun x => decide (x ≠ k)) else ofP w t' := by
  unfold ofP dropP
  induction w with
  | nil => simp
  | cons x w ih =>
    obtain ⟨a, b⟩ := x
    by_cases h : t' = t
    · subst h
      simp only [if_true] at ih ⊢
      by_cases ha : a = t'
      · subst ha
        by_cases hb : b = k
        · subst hb; simp at ih ⊢; exact ih
        · simp [hb] at ih ⊢; exact ih
      · simp [ha] at ih ⊢; exact ih
    · simp only [if_neg h] at ih ⊢
      by_cases ha : a = t'
      · subst ha
        simp [h] at ih ⊢; exact ih
      · by_cases hd : (a, b) = (t, k)
        · obtain ⟨rfl, rfl⟩ := Prod.mk.inj hd
          simp [ha] at ih ⊢; exact ih
        · have hd' : ¬ (a = t ∧ b = k) := fun e => hd (Prod.ext e.1 e.2)
          simp only [List.filter_cons, ne_eq, hd, not_false_eq_true, decide_true, if_true, ha, decide_false, Bool.false_eq_true, if_false] at ih ⊢
          exact ih
theorem byP_drop (w : List Pr) (t : Tx) (k k' : Int) : byP (dropP w t k) k' = if k' = k then (byP w k).filter (fun x => decide (x ≠ t)) else byP w k' := by
  unfold byP dropP
  induction w with
  | nil => simp
  | cons x w ih =>
    obtain ⟨a, b⟩ := x
    by_cases h : k' = k
    · subst h
      simp only [if_true] at ih ⊢
      by_cases hb : b = k'
      · subst hb
        by_cases ha : a = t
        · subst ha; simp at ih ⊢; exact ih
        · simp [ha] at ih ⊢; exact ih
      · simp [hb] at ih ⊢; exact ih
    · simp only [if_neg h] at ih ⊢
      by_cases hb : b = k'
      · subst hb
        simp [h] at ih ⊢; exact ih
      · by_cases hd : (a, b) = (t, k)
        · obtain ⟨rfl, rfl⟩ := Prod.mk.inj hd
          simp [hb] at ih ⊢; exact ih
        · simp only [List.filter_cons, ne_eq, hd, not_false_eq_true, decide_true, if_true, hb, decide_false, Bool.false_eq_true, if_false] at ih ⊢
          exact ih
theorem nz_getD {α : Type} (l : List α) : (nz l).getD [] = l := by
  unfold nz; cases l <;> rfl
theorem nz_none {α : Type} {l : List α} : nz l = none ↔ l = [] := by
  unfold nz; cases l <;> simp
theorem nz_app {α : Type} (l : List α) (x : α) : nz (l ++ [x]) = some (l ++ [x]) := by
  unfold nz; cases l <;> rfl

/-- One begins. -/
theorem RelT.add {who : List (Tx × List Int)} {what : List (Int × List Tx)} {w : List Pr} (h : RelT who what w) {t : Tx} {k : Int} (hn : (t, k) ∉ w) :
    RelT (putM t (ofP w t ++ [k]) who) (putM k (byP w k ++ [t]) what) (w ++ [(t, k)]) := by
  refine ⟨?_, fun t' => ?_, fun k' => ?_⟩
  · rw [List.nodup_append]
    exact ⟨h.nd, by simp, fun a ha b hb e => hn (by simp at hb; rw [← hb, ← e]; exact ha)⟩
  · rw [getM_put, ofP_append, ofP_one]
    by_cases ht : t' = t
    · subst ht; rw [if_pos rfl, if_pos rfl, nz_app]
    · rw [if_neg ht, if_neg ht, List.append_nil, h.who]
  · rw [getM_put, byP_append, byP_one]
    by_cases hk : k' = k
    · subst hk; rw [if_pos rfl, if_pos rfl, nz_app]
    · rw [if_neg hk, if_neg hk, List.append_nil, h.what]
/-- A list stored, or its key struck where it is empty. -/
def stow {κ α : Type} [DecidableEq κ] (k : κ) (l : List α) (m : List (κ × List α)) : List (κ × List α) := if l.isEmpty then delM k (putM k l m) else putM k l m
theorem getM_stow {κ α : Type} [DecidableEq κ] (k j : κ) (l : List α) (m : List (κ × List α)) : getM j (stow k l m) = if j = k then nz l else getM j m := by
  unfold stow nz
  cases l with
  | nil =>
    simp only [List.isEmpty_nil, if_true, getM_del, getM_put]
    split <;> rfl
  | cons x l => simp only [List.isEmpty_cons, Bool.false_eq_true, if_false, getM_put]
/-- One ends. -/
theorem RelT.drop {who : List (Tx × List Int)} {what : List (Int × List Tx)} {w : List Pr} (h : RelT who what w) (t : Tx) (k : Int) :
    RelT (stow t ((ofP w t).filter fun x => decide (x ≠ k)) who) (stow k ((byP w k).filter fun x => decide (x ≠ t)) what) (dropP w t k) := by
  refine ⟨h.nd.filter _, fun t' => ?_, fun k' => ?_⟩
  · rw [getM_stow, ofP_drop]
    split
    · rfl
    · exact h.who t'
  · rw [getM_stow, byP_drop]
    split
    · rfl
    · exact h.what k'
theorem dropP_not {w : List Pr} {t : Tx} {k : Int} (h : (t, k) ∉ w) : dropP w t k = w :=
  List.filter_eq_self.2 fun x hx => by simp only [ne_eq, decide_not, Bool.not_eq_true', decide_eq_false_iff_not]; rintro rfl; exact h hx
theorem mem_dropP {w : List Pr} {t : Tx} {k : Int} {x : Pr} : x ∈ dropP w t k ↔ x ∈ w ∧ x ≠ (t, k) := by simp [dropP]
def dropAllP (w : List Pr) (k : Int) : List Pr := w.filter fun x => decide (x.2 ≠ k)
/-- All of one's topics dropped, one after another. -/
theorem dropAll_fold (k : Int) : ∀ (l : List Tx) (w : List Pr), (∀ t, (t, k) ∈ w → t ∈ l) → l.foldl (fun w t => dropP w t k) w = dropAllP w k
  | [], w, h => by
    refine (List.filter_eq_self.2 fun x hx => ?_).symm
    simp only [ne_eq, decide_not, Bool.not_eq_true', decide_eq_false_iff_not]
    rintro rfl
    have := h x.1 hx
    cases this
  | t :: l, w, h => by
    rw [List.foldl_cons, dropAll_fold k l (dropP w t k) (fun t' ht' => by
      rw [mem_dropP] at ht'
      rcases List.mem_cons.1 (h t' ht'.1) with rfl | h'
      · exact absurd rfl ht'.2
      · exact h')]
    unfold dropAllP dropP
    rw [List.filter_filter]
    refine List.filter_congr fun x _ => ?_
    by_cases hx : x.2 = k
    · simp [hx]
    · have : x ≠ (t, k) := fun e => hx (by rw [e])
      simp [hx, this]
theorem ofP_dropAll (w : List Pr) (k : Int) (t : Tx) : ofP (dropAllP w k) t = (ofP w t).filter fun x => decide (x ≠ k) := by
  unfold ofP dropAllP
  rw [List.filter_map, List.filter_filter, List.filter_filter]
  congr 1
  refine List.filter_congr fun x _ => ?_
  simp [Bool.and_comm]
theorem byP_dropAll (w : List Pr) (k k' : Int) : byP (dropAllP w k) k' = if k' = k then [] else byP w k' := by
  unfold byP dropAllP
  rw [List.filter_filter]
  split
  · rename_i h; subst h
    rw [List.map_eq_nil_iff, List.filter_eq_nil_iff]
    intro x _; simp
  · rename_i h
    congr 1
    refine List.filter_congr fun x _ => ?_
    by_cases hx : x.2 = k'
    · subst hx; simp [h]
    · simp [hx]

/-- The topics that somebody hears, rising. -/
def leS : Tx → Tx → Bool := fun x y => decide (x ≤ y)
theorem leS_tr : ∀ a b c : Tx, leS a b = true → leS b c = true → leS a c = true := fun a b c h1 h2 => by simp only [leS, decide_eq_true_eq] at *; exact List.le_trans h1 h2
theorem leS_to : ∀ a b : Tx, (leS a b || leS b a) = true := fun a b => by simp only [leS, Bool.or_eq_true, decide_eq_true_eq]; exact List.le_total a b
abbrev Rise (l : List Tx) : Prop := l.Pairwise (· < ·)
theorem rise_unique {l m : List Tx} (h1 : Rise l) (h2 : Rise m) (h : ∀ x, x ∈ l ↔ x ∈ m) : l = m := by
  have n1 : l.Nodup := h1.imp (fun {a b} hab e => by subst e; exact List.lt_irrefl _ hab)
  have n2 : m.Nodup := h2.imp (fun {a b} hab e => by subst e; exact List.lt_irrefl _ hab)
  have hp : l.Perm m := (List.perm_ext_iff_of_nodup n1 n2).2 h
  refine hp.eq_of_pairwise (le := (· < ·)) (fun a b _ _ h1 h2 => ?_) h1 h2
  exact absurd (List.lt_trans h1 h2) (List.lt_irrefl _)
theorem sort_rise {l : List Tx} (hn : l.Nodup) : Rise (l.mergeSort leS) := by
  have hs := List.pairwise_mergeSort leS_tr leS_to l
  have hn' : (l.mergeSort leS).Nodup := (List.mergeSort_perm l leS).nodup_iff.2 hn
  refine (List.Pairwise.and hs hn').imp ?_
  rintro a b ⟨h1, h2⟩
  simp only [leS, decide_eq_true_eq] at h1
  rcases List.le_iff_lt_or_eq.1 h1 with h | h
  · exact h
  · exact absurd h h2
def topsP : List Pr → List Tx
  | [] => []
  | x :: w => if x.1 ∈ topsP w then topsP w else x.1 :: topsP w
theorem topsP_nodup : ∀ w, (topsP w).Nodup
  | [] => List.nodup_nil
  | x :: w => by
    unfold topsP
    split
    · exact topsP_nodup w
    · rename_i h; exact List.nodup_cons.2 ⟨h, topsP_nodup w⟩
theorem mem_topsP {t : Tx} : ∀ {w : List Pr}, t ∈ topsP w ↔ ∃ k, (t, k) ∈ w
  | [] => by simp [topsP]
  | x :: w => by
    have ih := mem_topsP (t := t) (w := w)
    unfold topsP
    constructor
    · intro h
      split at h
      · obtain ⟨k, hk⟩ := ih.1 h; exact ⟨k, List.mem_cons_of_mem _ hk⟩
      · rcases List.mem_cons.1 h with rfl | h
        · exact ⟨x.2, List.mem_cons_self ..⟩
        · obtain ⟨k, hk⟩ := ih.1 h; exact ⟨k, List.mem_cons_of_mem _ hk⟩
    · rintro ⟨k, hk⟩
      rcases List.mem_cons.1 hk with rfl | hk
      · split
        · assumption
        · exact List.mem_cons_self ..
      · have h := ih.2 ⟨k, hk⟩
        split
        · exact h
        · exact List.mem_cons_of_mem _ h
def topicsP (w : List Pr) : List Tx := (topsP w).mergeSort leS
theorem topicsP_rise (w : List Pr) : Rise (topicsP w) := sort_rise (topsP_nodup w)
theorem mem_topicsP {w : List Pr} {t : Tx} : t ∈ topicsP w ↔ ∃ k, (t, k) ∈ w := by
  unfold topicsP
  rw [(List.mergeSort_perm _ _).mem_iff, mem_topsP]
theorem RelT.keys {who : List (Tx × List Int)} {what : List (Int × List Tx)} {w : List Pr} (h : RelT who what w) (hn : (who.map (·.1)).Nodup) : (who.map (·.1)).mergeSort leS = topicsP w := by
  refine rise_unique (sort_rise hn) (topicsP_rise w) fun t => ?_
  rw [(List.mergeSort_perm _ _).mem_iff, mem_topicsP]
  have e := h.who t
  constructor
  · intro ht
    have : getM t who ≠ none := fun e => (getM_none.1 e) ht
    rw [e, Ne, nz_none] at this
    cases hl : ofP w t with
    | nil => exact absurd hl this
    | cons k r => exact ⟨k, mem_ofP.1 (by rw [hl]; exact List.mem_cons_self ..)⟩
  · rintro ⟨k, hk⟩
    refine Classical.byContradiction fun hc => ?_
    rw [getM_none.2 hc] at e
    have := nz_none.1 e.symm
    have hm := mem_ofP.2 hk
    rw [this] at hm
    cases hm
end Go.Proofs.YtdobgebdlbckoaaGreatDoor.TpP
