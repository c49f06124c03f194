/-
  Timers, as plain lists of keys and dues, and their laws. No program is named here.
-/
namespace Go.Proofs.Ytedkkcbdhbbegaa.TmP
set_option linter.unusedSectionVars false

/-- A strict total order of keys. -/
structure Ordr {κ : Type} (lt : κ → κ → Bool) : Prop where
  irr : ∀ a, lt a a = false
  tr : ∀ a b c, lt a b = true → lt b c = true → lt a c = true
  tri : ∀ a b, lt a b = true ∨ a = b ∨ lt b a = true

section
variable {κ : Type} [DecidableEq κ] (lt : κ → κ → Bool)

/-- Does x stand ahead of y? -/
def bef (x y : κ × Int) : Bool := decide (x.2 < y.2) || (decide (x.2 = y.2) && lt x.1 y.1)
abbrev Srt (l : List (κ × Int)) : Prop := l.Pairwise fun x y => bef lt x y = true
def keysOf (l : List (κ × Int)) : List κ := l.map (·.1)
def atP (k : κ) (l : List (κ × Int)) : Nat := l.findIdx fun x => decide (x.1 = k)
def cancelP (k : κ) (l : List (κ × Int)) : List (κ × Int) := l.eraseP fun x => decide (x.1 = k)
def posP (x : κ × Int) (l : List (κ × Int)) : Nat := l.findIdx fun y => !bef lt y x
def insP (p : Nat) (x : κ × Int) (l : List (κ × Int)) : List (κ × Int) := l.take p ++ x :: l.drop p
def setP (k : κ) (d : Int) (l : List (κ × Int)) : List (κ × Int) := insP (posP lt (k, d) (cancelP k l)) (k, d) (cancelP k l)
def dueP (k : κ) (l : List (κ × Int)) : Option Int := (l.find? fun x => decide (x.1 = k)).map (·.2)
def outP (now : Int) (l : List (κ × Int)) : List κ := keysOf (l.takeWhile fun x => decide (x.2 ≤ now))
def restP (now : Int) (l : List (κ × Int)) : List (κ × Int) := l.dropWhile fun x => decide (x.2 ≤ now)

variable {lt} (o : Ordr lt)
include o
theorem bef_irr (x : κ × Int) : bef lt x x = false := by simp [bef, o.irr]
theorem bef_tr {x y z : κ × Int} (h1 : bef lt x y = true) (h2 : bef lt y z = true) : bef lt x z = true := by
  simp only [bef, Bool.or_eq_true, Bool.and_eq_true, decide_eq_true_eq] at *
  rcases h1 with h1 | ⟨h1, h3⟩ <;> rcases h2 with h2 | ⟨h2, h4⟩
  · left; omega
  · left; omega
  · left; omega
  · right; exact ⟨by omega, o.tr _ _ _ h3 h4⟩
theorem bef_tri (x y : κ × Int) (hk : x.1 ≠ y.1) : bef lt x y = true ∨ bef lt y x = true := by
  simp only [bef, Bool.or_eq_true, Bool.and_eq_true, decide_eq_true_eq]
  rcases Int.lt_trichotomy x.2 y.2 with h | h | h
  · left; left; exact h
  · rcases o.tri x.1 y.1 with h1 | h1 | h1
    · left; right; exact ⟨h, h1⟩
    · exact absurd h1 hk
    · right; right; exact ⟨h.symm, h1⟩
  · right; left; exact h
theorem bef_asymm {x y : κ × Int} (h : bef lt x y = true) : bef lt y x = false := by
  cases h2 : bef lt y x with
  | false => rfl
  | true => have := bef_tr o h h2; rw [bef_irr o] at this; cases this
omit o

theorem cancelP_sub (k : κ) (l : List (κ × Int)) : (cancelP k l).Sublist l := List.eraseP_sublist ..
theorem cancelP_srt {k : κ} {l : List (κ × Int)} (h : Srt lt l) : Srt lt (cancelP k l) := h.sublist (cancelP_sub k l)
theorem cancelP_not {k : κ} {l : List (κ × Int)} (h : (keysOf l).Nodup) : k ∉ keysOf (cancelP k l) := by
  induction l with
  | nil => simp [cancelP, keysOf]
  | cons x r ih =>
    simp only [keysOf, List.map_cons, List.nodup_cons] at h
    unfold cancelP
    by_cases hx : x.1 = k
    · rw [List.eraseP_cons_of_pos (by simpa using hx), ← hx]; exact h.1
    · rw [List.eraseP_cons_of_neg (by simpa using hx)]
      simp only [keysOf, List.map_cons, List.mem_cons, not_or]
      exact ⟨fun e => hx e.symm, ih h.2⟩
theorem cancelP_nodup {k : κ} {l : List (κ × Int)} (h : (keysOf l).Nodup) : (keysOf (cancelP k l)).Nodup := h.sublist ((cancelP_sub k l).map _)
theorem mem_cancelP {k : κ} {l : List (κ × Int)} (h : (keysOf l).Nodup) (x : κ × Int) : x ∈ cancelP k l ↔ x ∈ l ∧ x.1 ≠ k := by
  induction l with
  | nil => simp [cancelP]
  | cons y r ih =>
    simp only [keysOf, List.map_cons, List.nodup_cons] at h
    have ih := ih h.2
    unfold cancelP at ih ⊢
    by_cases hy : y.1 = k
    · rw [List.eraseP_cons_of_pos (by simpa using hy)]
      constructor
      · intro hx
        refine ⟨by simp [hx], fun e => h.1 ?_⟩
        rw [hy, ← e]
        exact List.mem_map_of_mem (f := (·.1)) hx
      · rintro ⟨hx, hn⟩
        rcases List.mem_cons.1 hx with rfl | hx
        · exact absurd hy hn
        · exact hx
    · rw [List.eraseP_cons_of_neg (by simpa using hy), List.mem_cons, ih, List.mem_cons]
      constructor
      · rintro (rfl | ⟨h1, h2⟩)
        · exact ⟨.inl rfl, hy⟩
        · exact ⟨.inr h1, h2⟩
      · rintro ⟨rfl | h1, h2⟩
        · exact .inl rfl
        · exact .inr ⟨h1, h2⟩

include o
/-- Where a new one comes: ahead of it stand those that come before it, behind it the others. -/
theorem posP_spec {x : κ × Int} {l : List (κ × Int)} (h : Srt lt l) : posP lt x l ≤ l.length ∧ (∀ i y, i < posP lt x l → l[i]? = some y → bef lt y x = true) ∧ (∀ i y, posP lt x l ≤ i → l[i]? = some y → bef lt y x = false) := by
  refine ⟨List.findIdx_le_length, fun i y hi hy => ?_, fun i y hi hy => ?_⟩
  · obtain ⟨hl, rfl⟩ := List.getElem?_eq_some_iff.1 hy
    have := List.not_of_lt_findIdx hi
    simpa using this
  · obtain ⟨hl, rfl⟩ := List.getElem?_eq_some_iff.1 hy
    have hp : posP lt x l < l.length := by omega
    have h0 : bef lt l[posP lt x l] x = false := by
      have := List.findIdx_getElem (w := hp)
      simp only [Bool.not_eq_true'] at this
      exact this
    by_cases e : i = posP lt x l
    · subst e; exact h0
    · have hlt := List.pairwise_iff_getElem.1 h (posP lt x l) i hp hl (by omega)
      cases h2 : bef lt l[i] x with
      | false => rfl
      | true => rw [bef_tr o hlt h2] at h0; cases h0
theorem ins_srt {x : κ × Int} {l : List (κ × Int)} (h : Srt lt l) (hk : x.1 ∉ keysOf l) : Srt lt (insP (posP lt x l) x l) := by
  obtain ⟨h1, h2, h3⟩ := posP_spec o (x := x) h
  generalize posP lt x l = p at *
  show (l.take p ++ x :: l.drop p).Pairwise _
  rw [List.pairwise_append]
  refine ⟨h.sublist (List.take_sublist ..), ?_, ?_⟩
  · rw [List.pairwise_cons]
    refine ⟨fun y hy => ?_, h.sublist (List.drop_sublist ..)⟩
    obtain ⟨i, hi, rfl⟩ := List.getElem_of_mem hy
    have hil : p + i < l.length := by simp at hi; omega
    have hb := h3 (p + i) l[p + i] (by omega) (List.getElem?_eq_getElem hil)
    rw [List.getElem_drop]
    rcases bef_tri o x l[p + i] (fun e => hk (by rw [e]; exact List.mem_map_of_mem (f := (·.1)) (List.getElem_mem hil))) with h4 | h4
    · exact h4
    · rw [h4] at hb; cases hb
  · intro a ha b hb
    obtain ⟨i, hi, rfl⟩ := List.getElem_of_mem ha
    have hi' : i < p ∧ i < l.length := by simp at hi; omega
    rw [List.getElem_take]
    rcases List.mem_cons.1 hb with rfl | hb
    · exact h2 i l[i] hi'.1 (List.getElem?_eq_getElem hi'.2)
    · obtain ⟨j, hj, rfl⟩ := List.getElem_of_mem hb
      rw [List.getElem_drop]
      have hjl : p + j < l.length := by simp at hj; omega
      exact List.pairwise_iff_getElem.1 h i (p + j) hi'.2 hjl (by omega)
theorem setP_srt {k : κ} {d : Int} {l : List (κ × Int)} (h : Srt lt l) (hn : (keysOf l).Nodup) : Srt lt (setP lt k d l) :=
  ins_srt o (cancelP_srt h) (cancelP_not hn)
omit o
theorem setP_perm (k : κ) (d : Int) (l : List (κ × Int)) : (setP lt k d l).Perm ((k, d) :: cancelP k l) := by
  unfold setP insP
  refine List.perm_middle.trans ?_
  rw [List.take_append_drop]
theorem setP_nodup {k : κ} {d : Int} {l : List (κ × Int)} (hn : (keysOf l).Nodup) : (keysOf (setP lt k d l)).Nodup := by
  have := ((setP_perm (lt := lt) k d l).map (·.1)).nodup_iff.2
  refine this ?_
  rw [List.map_cons, List.nodup_cons]
  exact ⟨cancelP_not hn, cancelP_nodup hn⟩
theorem mem_setP {k : κ} {d : Int} {l : List (κ × Int)} (hn : (keysOf l).Nodup) (x : κ × Int) : x ∈ setP lt k d l ↔ x = (k, d) ∨ (x ∈ l ∧ x.1 ≠ k) := by
  rw [(setP_perm k d l).mem_iff, List.mem_cons, mem_cancelP hn]
theorem dueP_iff {k : κ} {d : Int} {l : List (κ × Int)} (hn : (keysOf l).Nodup) : dueP k l = some d ↔ (k, d) ∈ l := by
  induction l with
  | nil => simp [dueP]
  | cons x r ih =>
    simp only [keysOf, List.map_cons, List.nodup_cons] at hn
    have ih := ih hn.2
    unfold dueP at ih ⊢
    by_cases hx : x.1 = k
    · rw [List.find?_cons_of_pos (by simpa using hx)]
      simp only [Option.map_some, Option.some.injEq, List.mem_cons]
      constructor
      · intro e; left; rw [← hx, ← e]
      · rintro (e | e)
        · rw [← e]
        · exact absurd (List.mem_map_of_mem (f := (·.1)) e) (by rw [← hx] at *; exact hn.1)
    · rw [List.find?_cons_of_neg (by simpa using hx), ih, List.mem_cons]
      constructor
      · exact .inr
      · rintro (e | e)
        · exact absurd (by rw [← e]) hx
        · exact e
theorem dueP_none {k : κ} {l : List (κ × Int)} : dueP k l = none ↔ k ∉ keysOf l := by
  unfold dueP keysOf
  rw [Option.map_eq_none_iff, List.find?_eq_none]
  simp only [decide_eq_true_eq, List.mem_map, not_exists, not_and]
theorem restP_srt {now : Int} {l : List (κ × Int)} (h : Srt lt l) : Srt lt (restP now l) := h.sublist (List.dropWhile_sublist ..)
theorem out_rest (now : Int) (l : List (κ × Int)) : (l.takeWhile fun x => decide (x.2 ≤ now)) ++ restP now l = l := List.takeWhile_append_dropWhile
include o
theorem rest_late {now : Int} {l : List (κ × Int)} (h : Srt lt l) (x : κ × Int) (hx : x ∈ restP now l) : now < x.2 := by
  have hs := restP_srt (now := now) h
  unfold restP at hx hs
  cases hd : l.dropWhile (fun x => decide (x.2 ≤ now)) with
  | nil => rw [hd] at hx; simp at hx
  | cons y r =>
    have hy : ¬ y.2 ≤ now := by
      have := List.head?_dropWhile_not (p := fun x : κ × Int => decide (x.2 ≤ now)) l
      rw [hd] at this
      simpa using this
    rw [hd] at hx hs
    rcases List.mem_cons.1 hx with rfl | hx
    · omega
    · have := (List.pairwise_cons.1 hs).1 x hx
      simp only [bef, Bool.or_eq_true, Bool.and_eq_true, decide_eq_true_eq] at this
      omega
/-- Two sorted lists of the same things are one. -/
theorem srt_unique : ∀ {l m : List (κ × Int)}, Srt lt l → Srt lt m → l.Perm m → l = m
  | [], m, _, _, h => (List.nil_perm.1 h).symm
  | x :: l, [], _, _, h => absurd h.symm (List.not_perm_nil_cons _ _)
  | x :: l, y :: m, h1, h2, h => by
    have hx := List.pairwise_cons.1 h1
    have hy := List.pairwise_cons.1 h2
    have e : x = y := by
      rcases List.mem_cons.1 (h.mem_iff.1 (List.mem_cons_self ..)) with e | e
      · exact e
      · rcases List.mem_cons.1 (h.mem_iff.2 (List.mem_cons_self ..)) with e2 | e2
        · exact e2.symm
        · have a := hy.1 x e
          have b := hx.1 y e2
          rw [bef_asymm o a] at b; cases b
    subst e
    rw [srt_unique hx.2 hy.2 ((List.perm_cons x).1 h)]
end
end Go.Proofs.Ytedkkcbdhbbegaa.TmP
