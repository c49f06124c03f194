/-
  Tries, as lists of patterns: what is a pattern, where it leads, which one is the best that fits a path. No program is named here.
-/
import Derived.Test.YtlofiaaacepgmaaGreatDoorPathL
import Derived.Test.YtlofiaaacepgmaaGreatDoorMp
namespace Go.Proofs.YtlofiaaacepgmaaGreatDoor.TrP
open Go Go.Proofs.YtlofiaaacepgmaaGreatDoor.PathP Go.Proofs.YtlofiaaacepgmaaGreatDoor.PathL Go.Proofs.YtlofiaaacepgmaaGreatDoor.Mp
abbrev Tx := List UInt8

/-! ### Patterns -/
inductive Key where
  | lit (s : Tx)
  | par
  | rst
deriving DecidableEq
def keyOf : Tx → Key
  | c :: t => if c = 58 then .par else if c = 42 then .rst else .lit (c :: t)
  | [] => .lit []
def nameC (c : UInt8) : Bool := c == 95 || (48 ≤ c && c ≤ 57) || (97 ≤ c && c ≤ 122) || (65 ≤ c && c ≤ 90)
def named (s : Tx) : Bool := s.all nameC && s != [] && decide (s.length ≤ 32)
def isSp (s : Tx) : Bool := s.head? == some 58 || s.head? == some 42
def goSeg : List Tx → List Tx → Bool
  | _, [] => true
  | names, s :: r => s != [] && (if isSp s = true then named (s.drop 1) && !names.contains (s.drop 1) && !(s.head? == some 42 && decide (r ≠ [])) && goSeg (names ++ [s.drop 1]) r else goSeg names r)
def splitP (p : Tx) : Option (List Tx) := if p = [47] then some [] else if p.head? = some 47 ∧ goSeg [] (parts (p.drop 1)) = true then some (parts (p.drop 1)) else none
def keysOf (l : List Tx) : List Key := l.map keyOf

theorem keyOf_sp {s : Tx} (h : s.head? = some 58) : keyOf s = .par := by
  cases s with
  | nil => cases h
  | cons c t => simp at h; subst h; rfl
theorem keyOf_star {s : Tx} (h : s.head? = some 42) : keyOf s = .rst := by
  cases s with
  | nil => cases h
  | cons c t => simp at h; subst h; rfl
theorem keyOf_lit {s : Tx} (h : isSp s = false) : keyOf s = .lit s := by
  cases s with
  | nil => rfl
  | cons c t =>
    simp [isSp] at h
    simp [keyOf, h]
theorem isSp_iff {s : Tx} : isSp s = true ↔ s.head? = some 58 ∨ s.head? = some 42 := by
  simp [isSp]
theorem keyOf_nlit {s : Tx} (h : isSp s = true) (t : Tx) : keyOf s ≠ .lit t := by
  rcases isSp_iff.1 h with h | h
  · rw [keyOf_sp h]; simp
  · rw [keyOf_star h]; simp

/-- Segments of a pattern: none empty, the rest last. -/
theorem goSeg_ne : ∀ (l : List Tx) (names : List Tx), goSeg names l = true → ∀ s ∈ l, s ≠ []
  | [], _, _, s, hs => by cases hs
  | x :: r, names, h, s, hs => by
    unfold goSeg at h
    simp only [Bool.and_eq_true, bne_iff_ne, ne_eq] at h
    rcases List.mem_cons.1 hs with rfl | hs
    · exact h.1
    · have h2 := h.2
      split at h2
      · simp only [Bool.and_eq_true] at h2
        exact goSeg_ne r _ h2.2 s hs
      · exact goSeg_ne r _ h2 s hs
theorem goSeg_last : ∀ (l : List Tx) (names : List Tx), goSeg names l = true → ∀ (i : Nat) (s : Tx), l[i]? = some s → s.head? = some 42 → i + 1 = l.length
  | [], _, _, i, s, hs, _ => by simp at hs
  | x :: r, names, h, i, s, hs, h42 => by
    unfold goSeg at h
    simp only [Bool.and_eq_true, bne_iff_ne, ne_eq] at h
    cases i with
    | zero =>
      simp at hs; subst hs
      have hsp : isSp x = true := isSp_iff.2 (.inr h42)
      have h2 := h.2
      rw [if_pos hsp] at h2
      simp only [Bool.and_eq_true] at h2
      have h3 := h2.1.2
      simp [h42] at h3
      simp [h3]
    | succ i =>
      have hs' : r[i]? = some s := by simpa using hs
      have h2 := h.2
      have ih : ∀ names, goSeg names r = true → i + 1 + 1 = (x :: r).length := fun names hg => by
        have := goSeg_last r names hg i s hs' h42
        simp; omega
      split at h2
      · simp only [Bool.and_eq_true] at h2
        exact ih _ h2.2
      · exact ih _ h2
theorem parts_no47 (s : Tx) : ∀ x ∈ parts s, ∀ a ∈ x, a ≠ 47 := by
  induction s with
  | nil => intro x hx; simp [parts] at hx; subst hx; simp
  | cons c r ih =>
    by_cases h : c = 47
    · subst h
      rw [parts_slash]
      intro x hx
      rcases List.mem_cons.1 hx with rfl | hx
      · simp
      · exact ih x hx
    · obtain ⟨y, ys, hy⟩ := parts_ne r
      rw [parts_cons _ _ _ _ h hy]
      rw [hy] at ih
      intro x hx
      rcases List.mem_cons.1 hx with rfl | hx
      · intro a ha
        rcases List.mem_cons.1 ha with rfl | ha
        · exact h
        · exact ih y (by simp) a ha
      · exact ih x (by simp [hx])
/-- A text is its parts, one behind the other. -/
def joinS : List Tx → Tx
  | [] => []
  | [x] => x
  | x :: y :: r => x ++ 47 :: joinS (y :: r)
theorem joinS_cons (x : Tx) {r : List Tx} (h : r ≠ []) : joinS (x :: r) = x ++ 47 :: joinS r := by
  cases r with
  | nil => exact absurd rfl h
  | cons y r => rfl
theorem joinS_parts (s : Tx) : joinS (parts s) = s := by
  induction s with
  | nil => rfl
  | cons c r ih =>
    obtain ⟨y, ys, hy⟩ := parts_ne r
    by_cases h : c = 47
    · subst h
      rw [parts_slash, joinS_cons _ (by rw [hy]; simp), ih]
      rfl
    · rw [parts_cons _ _ _ _ h hy]
      rw [hy] at ih
      cases ys with
      | nil => simp [joinS] at ih ⊢; rw [ih]
      | cons z zs => rw [joinS_cons _ (by simp)] at ih ⊢; rw [← ih]; simp
def flatS (l : List Tx) : Tx := l.flatMap fun s => 47 :: s
theorem flatS_join : ∀ (l : List Tx), l ≠ [] → flatS l = 47 :: joinS l
  | [], h => absurd rfl h
  | [x], _ => by simp [flatS, joinS]
  | x :: y :: r, _ => by
    rw [joinS_cons _ (by simp), flatS, List.flatMap_cons]
    have := flatS_join (y :: r) (by simp)
    unfold flatS at this
    rw [this]; simp

theorem splitP_root : splitP [47] = some [] := rfl
theorem splitP_some {p : Tx} {l : List Tx} (h : splitP p = some l) : (p = [47] ∧ l = []) ∨ (p ≠ [47] ∧ p.head? = some 47 ∧ l = parts (p.drop 1) ∧ goSeg [] l = true) := by
  unfold splitP at h
  split at h
  · rename_i hp
    cases h
    exact .inl ⟨hp, rfl⟩
  · rename_i hp
    split at h
    · rename_i hg
      cases h
      exact .inr ⟨hp, hg.1, rfl, hg.2⟩
    · cases h
theorem splitP_ne {p : Tx} {l : List Tx} (h : splitP p = some l) : ∀ s ∈ l, s ≠ [] := by
  rcases splitP_some h with ⟨_, rfl⟩ | ⟨_, _, _, hg⟩
  · simp
  · exact goSeg_ne _ _ hg
theorem splitP_last {p : Tx} {l : List Tx} (h : splitP p = some l) (i : Nat) (s : Tx) (hs : l[i]? = some s) (h42 : s.head? = some 42) : i + 1 = l.length := by
  rcases splitP_some h with ⟨_, rfl⟩ | ⟨_, _, _, hg⟩
  · simp at hs
  · exact goSeg_last _ _ hg i s hs h42
theorem splitP_pat {p : Tx} {l : List Tx} (h : splitP p = some l) : p ≠ [] := by
  rcases splitP_some h with ⟨rfl, _⟩ | ⟨_, hh, _, _⟩
  · simp
  · rintro rfl; cases hh
theorem splitP_len {p : Tx} {l : List Tx} (h : splitP p = some l) : l.length ≤ p.length := by
  rcases splitP_some h with ⟨rfl, rfl⟩ | ⟨_, hh, rfl, _⟩
  · simp
  · rw [PathQ.parts_count]
    have := List.count_le_length (a := (47 : UInt8)) (l := p.drop 1)
    cases p with
    | nil => cases hh
    | cons c r => simp at this ⊢; omega
/-- The rest is the last key. -/
theorem keys_rst {p : Tx} {l : List Tx} (h : splitP p = some l) (i : Nat) (hk : (keysOf l)[i]? = some .rst) : i + 1 = l.length := by
  unfold keysOf at hk
  rw [List.getElem?_map] at hk
  cases hs : l[i]? with
  | none => rw [hs] at hk; cases hk
  | some s =>
    rw [hs] at hk
    simp only [Option.map_some, Option.some.injEq] at hk
    refine splitP_last h i s hs ?_
    by_cases hsp : isSp s = true
    · rcases isSp_iff.1 hsp with h | h
      · rw [keyOf_sp h] at hk; cases hk
      · exact h
    · rw [keyOf_lit (by simpa using hsp)] at hk; cases hk

/-! ### What is found -/
section
variable {α : Type}
abbrev Ents (α : Type) := List (List Key × Tx × α)
def bestE (es : Ents α) : List Key → List Tx → Option (List Key)
  | ks, [] => if (getM ks es).isSome = true then some ks else none
  | ks, s :: r => (bestE es (ks ++ [.lit s]) r).or ((if s = [] then none else bestE es (ks ++ [.par]) r).or (if (getM (ks ++ [.rst]) es).isSome = true then some (ks ++ [.rst]) else none))
def fits : List Key → List Tx → Bool
  | [], [] => true
  | .lit t :: ks, s :: r => decide (t = s) && fits ks r
  | .par :: ks, s :: r => decide (s ≠ []) && fits ks r
  | .rst :: ks, _ :: _ => decide (ks = [])
  | _, _ => false
theorem best_fits (es : Ents α) : ∀ (path : List Tx) (ks k : List Key), bestE es ks path = some k → ∃ m, k = ks ++ m ∧ fits m path = true ∧ (getM k es).isSome = true
  | [], ks, k, h => by
    unfold bestE at h
    split at h
    · rename_i hs
      cases h
      exact ⟨[], by simp, rfl, hs⟩
    · cases h
  | s :: r, ks, k, h => by
    unfold bestE at h
    rcases Option.or_eq_some_iff.1 h with h | ⟨_, h⟩
    · obtain ⟨m, rfl, hf, hs⟩ := best_fits es r _ _ h
      exact ⟨.lit s :: m, by simp, by simp [fits, hf], hs⟩
    · rcases Option.or_eq_some_iff.1 h with h | ⟨_, h⟩
      · split at h
        · cases h
        · rename_i hne
          obtain ⟨m, rfl, hf, hs⟩ := best_fits es r _ _ h
          exact ⟨.par :: m, by simp, by simp [fits, hf, hne], hs⟩
      · split at h
        · rename_i hs
          cases h
          exact ⟨[.rst], rfl, by simp [fits], hs⟩
        · cases h
theorem getM_one (k m : List Key) (v : Tx × α) : getM k [(m, v)] = if m = k then some v else none := by
  rw [getM_cons, getM_nil]
theorem best_one (v : Tx × α) : ∀ (path : List Tx) (ks m : List Key), fits m path = true → bestE [(ks ++ m, v)] ks path = some (ks ++ m)
  | [], ks, m, h => by
    cases m with
    | nil => simp [bestE, getM_one]
    | cons k m => cases k <;> simp [fits] at h
  | s :: r, ks, m, h => by
    have no : ∀ (k0 : Key) (m0 : List Key) (p : Tx × α → Prop) (k1 : Key), k1 ≠ k0 → bestE [(ks ++ k0 :: m0, v)] (ks ++ [k1]) r = none := fun k0 m0 p k1 hne => by
      cases e : bestE [(ks ++ k0 :: m0, v)] (ks ++ [k1]) r with
      | none => rfl
      | some k =>
        obtain ⟨m1, rfl, _, hs⟩ := best_fits _ r _ _ e
        rw [getM_one] at hs
        split at hs
        · rename_i he
          rw [List.append_assoc] at he
          have := List.append_cancel_left he
          simp at this
          exact absurd this.1.symm hne
        · cases hs
    cases m with
    | nil => simp [fits] at h
    | cons k m =>
      cases k with
      | lit t =>
        simp [fits] at h
        obtain ⟨rfl, h⟩ := h
        have := best_one v r (ks ++ [.lit t]) m h
        rw [List.append_assoc] at this
        unfold bestE
        rw [show ks ++ Key.lit t :: m = ks ++ ([.lit t] ++ m) from rfl, this]
        rfl
      | par =>
        simp [fits] at h
        have := best_one v r (ks ++ [.par]) m h.2
        rw [List.append_assoc] at this
        unfold bestE
        rw [no .par m (fun _ => True) (.lit s) (by simp), if_neg h.1, show ks ++ Key.par :: m = ks ++ ([.par] ++ m) from rfl, this]
        rfl
      | rst =>
        simp [fits] at h
        subst h
        unfold bestE
        rw [no .rst [] (fun _ => True) (.lit s) (by simp), no .rst [] (fun _ => True) .par (by simp), getM_one, if_pos rfl]
        simp
theorem getM_snoc (es : Ents α) (e : List Key × Tx × α) (k : List Key) (h : k ≠ e.1) : getM k (es ++ [e]) = getM k es := by
  rw [getM_append, getM_cons, getM_nil, if_neg (fun he => h he.symm)]
  simp
theorem best_snoc (es : Ents α) (e : List Key × Tx × α) : ∀ (path : List Tx) (ks : List Key), bestE (es ++ [e]) ks path = bestE es ks path ∨ bestE (es ++ [e]) ks path = some e.1
  | [], ks => by
    by_cases h : ks = e.1
    · right
      unfold bestE
      have : (getM ks (es ++ [e])).isSome = true := by
        rw [getM_append, getM_cons, if_pos h.symm]
        cases getM ks es <;> rfl
      rw [if_pos this, h]
    · left
      unfold bestE
      rw [getM_snoc es e ks h]
  | s :: r, ks => by
    unfold bestE
    rcases best_snoc es e r (ks ++ [.lit s]) with h1 | h1
    · rw [h1]
      cases bestE es (ks ++ [.lit s]) r with
      | some k => left; rfl
      | none =>
        simp only [Option.none_or]
        have hr : (if (getM (ks ++ [.rst]) (es ++ [e])).isSome = true then some (ks ++ [Key.rst]) else none) = (if (getM (ks ++ [.rst]) es).isSome = true then some (ks ++ [.rst]) else none) ∨ (if (getM (ks ++ [.rst]) (es ++ [e])).isSome = true then some (ks ++ [Key.rst]) else none) = some e.1 := by
          by_cases h : ks ++ [.rst] = e.1
          · right
            have : (getM (ks ++ [.rst]) (es ++ [e])).isSome = true := by
              rw [getM_append, getM_cons, if_pos h.symm]
              cases getM (ks ++ [.rst]) es <;> rfl
            rw [if_pos this, h]
          · left
            rw [getM_snoc es e _ h]
        by_cases hs : s = []
        · rw [if_pos hs, if_pos hs]
          simpa using hr
        · rw [if_neg hs, if_neg hs]
          rcases best_snoc es e r (ks ++ [.par]) with h2 | h2
          · rw [h2]
            cases bestE es (ks ++ [.par]) r with
            | some k => left; rfl
            | none => simpa using hr
          · right; rw [h2]; rfl
    · right; rw [h1]; rfl
theorem best_congr {β : Type} (es : Ents α) (fs : Ents β) (h : ∀ k, (getM k es).isSome = (getM k fs).isSome) : ∀ (path : List Tx) (ks : List Key), bestE es ks path = bestE fs ks path
  | [], ks => by unfold bestE; rw [h]
  | s :: r, ks => by unfold bestE; rw [best_congr es fs h r, best_congr es fs h r, h]

/-! ### The parameters -/
def params : List Tx → List Tx → List (Tx × Tx)
  | [], _ => []
  | s :: l, path => (if s.head? = some 58 then [(s.drop 1, path.headD [])] else if s.head? = some 42 then [(s.drop 1, joinS path)] else []) ++ params l path.tail
/-- A pattern's segments with the parameters in them. -/
def fill : List Tx → List Tx → List Tx
  | [], _ => []
  | s :: l, path => (if s.head? = some 58 then path.headD [] else if s.head? = some 42 then joinS path else s) :: fill l path.tail
theorem fill_fits : ∀ (l path : List Tx), fits (keysOf l) path = true → flatS (fill l path) = flatS path
  | [], [], _ => rfl
  | [], _ :: _, h => by simp [keysOf, fits] at h
  | s :: l, [], h => by
    unfold keysOf at h
    rw [List.map_cons] at h
    cases hk : keyOf s <;> rw [hk] at h <;> simp [fits] at h
  | s :: l, x :: r, h => by
    unfold keysOf at h
    rw [List.map_cons] at h
    have ih := fill_fits l r
    unfold keysOf at ih
    unfold fill
    by_cases h1 : s.head? = some 58
    · rw [keyOf_sp h1] at h
      simp [fits] at h
      rw [if_pos h1]
      have := ih h.2
      simp only [flatS, List.flatMap_cons, List.tail_cons, List.headD_cons] at this ⊢
      rw [this]
    · rw [if_neg h1]
      by_cases h2 : s.head? = some 42
      · rw [keyOf_star h2] at h
        simp [fits] at h
        subst h
        rw [if_pos h2, flatS_join (x :: r) (by simp)]
        simp [fill, flatS]
      · rw [if_neg h2]
        have hsp : isSp s = false := by
          cases hh : isSp s with
          | false => rfl
          | true => exact absurd (isSp_iff.1 hh) (by simp [h1, h2])
        rw [keyOf_lit hsp] at h
        simp [fits] at h
        have := ih h.2
        simp only [flatS, List.flatMap_cons, List.tail_cons] at this ⊢
        rw [this, h.1]
end

/-! ### What is done to a trie -/
section
variable {α : Type}
def lookT (es : Ents α) (l : List Tx) : Option (Tx × α) := getM (keysOf l) es
/-- How Add ends, and what there is then. -/
def addT (es : Ents α) (max : Int) (p : Tx) (x : α) : Int × Ents α :=
  match splitP p with
  | none => (8, es)
  | some l => if (getM (keysOf l) es).isSome = true then (5, es) else if max ≤ (es.length : Int) then (6, es) else (0, es ++ [(keysOf l, p, x)])
/-- How Set ends, and what there is then. -/
def setT (es : Ents α) (p : Tx) (x : α) : Int × Ents α :=
  match splitP p with
  | none => (8, es)
  | some l => match getM (keysOf l) es with
    | none => (4, es)
    | some v => if v.1 = p then (0, putM (keysOf l) (p, x) es) else (4, es)
/-- What a pattern has. -/
def getT (es : Ents α) (p : Tx) : Option α :=
  match splitP p with
  | none => none
  | some l => match getM (keysOf l) es with
    | none => none
    | some v => if v.1 = p then some v.2 else none
/-- What is found: the pattern, what it has, the parameters. -/
def findT (es : Ents α) (path : List Tx) : Option (Tx × α × List (Tx × Tx)) :=
  match bestE es [] path with
  | none => none
  | some k => match getM k es with
    | none => none
    | some v => some (v.1, v.2, params ((splitP v.1).getD []) path)
def Good (es : Ents α) : Prop := (es.map (·.1)).Nodup ∧ ∀ e ∈ es, ∃ l, splitP e.2.1 = some l ∧ e.1 = keysOf l
theorem Good.nil : Good ([] : Ents α) := ⟨by simp, by simp⟩
theorem Good.snoc {es : Ents α} (h : Good es) {p : Tx} {l : List Tx} (hp : splitP p = some l) (hn : getM (keysOf l) es = none) (x : α) : Good (es ++ [(keysOf l, p, x)]) := by
  refine ⟨?_, ?_⟩
  · rw [List.map_append, List.nodup_append]
    refine ⟨h.1, by simp, ?_⟩
    intro a ha b hb e
    simp at hb
    subst e
    exact getM_none.1 hn (by rw [← hb]; exact ha)
  · intro e he
    rcases List.mem_append.1 he with he | he
    · exact h.2 e he
    · simp at he; subst he; exact ⟨l, hp, rfl⟩
theorem Good.add {es : Ents α} (h : Good es) (max : Int) (p : Tx) (x : α) : Good (addT es max p x).2 := by
  unfold addT
  split
  · exact h
  · rename_i l hl
    split
    · exact h
    · rename_i hn
      split
      · exact h
      · exact h.snoc hl (by simpa using hn) x
theorem Good.pat {es : Ents α} (h : Good es) {k : List Key} {v : Tx × α} (hk : getM k es = some v) : ∃ l, splitP v.1 = some l ∧ k = keysOf l := by
  obtain ⟨l, hl, e⟩ := h.2 _ (getM_mem hk)
  exact ⟨l, hl, e⟩
end
end Go.Proofs.YtlofiaaacepgmaaGreatDoor.TrP
