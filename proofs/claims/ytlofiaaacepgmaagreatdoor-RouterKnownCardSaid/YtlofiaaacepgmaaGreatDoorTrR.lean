/-
  Tries: what was found, put together again. No program is named here.
-/
import Derived.Test.YtlofiaaacepgmaaGreatDoorTrQ
namespace Go.Proofs.YtlofiaaacepgmaaGreatDoor.TrR
open Go Go.RowKit Go.Proofs Go.Proofs.YtlofiaaacepgmaaGreatDoor.Sep Go.Proofs.YtlofiaaacepgmaaGreatDoor.Frame Go.Proofs.YtlofiaaacepgmaaGreatDoor.PathP Go.Proofs.YtlofiaaacepgmaaGreatDoor.Mp Go.Proofs.YtlofiaaacepgmaaGreatDoor.TrP Go.Proofs.YtlofiaaacepgmaaGreatDoor.TrM Go.Proofs.YtlofiaaacepgmaaGreatDoor.TrQ

theorem flatS_append (l m : List Tx) : flatS (l ++ m) = flatS l ++ flatS m := by simp [flatS]
theorem flatS_cons (x : Tx) (l : List Tx) : flatS (x :: l) = 47 :: (x ++ flatS l) := by simp [flatS]
theorem pat_flat {p : Tx} (h : p.head? = some 47) : p = flatS (parts (p.drop 1)) := by
  cases p with
  | nil => cases h
  | cons c r =>
    simp at h
    subst h
    rw [flatS_join _ (by obtain ⟨x, xs, e⟩ := parts_ne r; show parts r ≠ []; rw [e]; simp)]
    show _ = 47 :: joinS (parts r)
    rw [joinS_parts]
def wantP (path : List Tx) : Tx := if path = [] then [47] else flatS path
theorem found_parts {p : Tx} {l path : List Tx} (h : splitP p = some l) (hf : fits (keysOf l) path = true) :
    p = flatS (parts (p.drop 1)) ∧ params (parts (p.drop 1)) path = params l path ∧ flatS (fill (parts (p.drop 1)) path) = wantP path := by
  rcases splitP_some h with ⟨rfl, rfl⟩ | ⟨hne, hh, rfl, hg⟩
  · cases path with
    | nil => exact ⟨rfl, rfl, rfl⟩
    | cons x r => simp [keysOf, fits] at hf
  · refine ⟨pat_flat hh, rfl, ?_⟩
    rw [fill_fits _ _ hf]
    unfold wantP
    rw [if_neg]
    rintro rfl
    have := fits_len _ _ hf
    have h2 := parts_ne (p.drop 1)
    obtain ⟨x, xs, e⟩ := h2
    rw [e] at this
    simp [keysOf] at this
theorem params_at {l path : List Tx} {j : Nat} {s : Tx} {pre : List TrQ.Fd} (h : params l path = pre ++ params (l.drop j) (path.drop j)) (hs : l[j]? = some s) :
    params l path = pre ++ (if s.head? = some 58 then [(s.drop 1, (path.drop j).headD [])] else if s.head? = some 42 then [(s.drop 1, joinS (path.drop j))] else []) ++ params (l.drop (j + 1)) (path.drop (j + 1)) := by
  rw [h, params_drop l path j s hs, List.append_assoc]
theorem fill_drop (l path : List Tx) (i : Nat) (s : Tx) (h : l[i]? = some s) : fill (l.drop i) (path.drop i) =
    (if s.head? = some 58 then (path.drop i).headD [] else if s.head? = some 42 then joinS (path.drop i) else s) :: fill (l.drop (i + 1)) (path.drop (i + 1)) := by
  obtain ⟨hi, e⟩ := List.getElem?_eq_some_iff.1 h
  rw [List.drop_eq_getElem_cons hi, e, fill, List.tail_drop]
theorem flat_at {l : List Tx} {j : Nat} {s : Tx} (h : l[j]? = some s) : flatS l = flatS (l.take j) ++ 47 :: (s ++ flatS (l.drop (j + 1))) := by
  obtain ⟨hi, e⟩ := List.getElem?_eq_some_iff.1 h
  conv => lhs; rw [← List.take_append_drop j l, flatS_append, List.drop_eq_getElem_cons hi, e, flatS_cons]
theorem flat_len_take {l : List Tx} {j : Nat} {s : Tx} (h : l[j]? = some s) : (flatS (l.take (j + 1))).length = (flatS (l.take j)).length + 1 + s.length := by
  rw [take_snoc l j s h, flatS_append]
  simp [flatS]
  omega
theorem flat_seg {p : Tx} {l : List Tx} (hp : p = flatS l) {j : Nat} {s : Tx} (h : l[j]? = some s) : (p.drop ((flatS (l.take j)).length + 1)).take s.length = s := by
  rw [hp, flat_at h]
  have e : (flatS (l.take j) ++ 47 :: (s ++ flatS (l.drop (j + 1)))) = (flatS (l.take j) ++ [47]) ++ (s ++ flatS (l.drop (j + 1))) := by simp
  rw [e]
  have hl : (flatS (l.take j) ++ [47]).length = (flatS (l.take j)).length + 1 := by simp
  rw [← hl, List.drop_left, List.take_left]
theorem flat_seg_at {p : Tx} {l : List Tx} (hp : p = flatS l) {j : Nat} {s : Tx} (h : l[j]? = some s) (k : Nat) (hk : k < s.length) : p[(flatS (l.take j)).length + 1 + k]? = s[k]? := by
  rw [hp, flat_at h, List.getElem?_append_right (by omega)]
  rw [show (flatS (l.take j)).length + 1 + k - (flatS (l.take j)).length = k + 1 from by omega, List.getElem?_cons_succ, List.getElem?_append_left hk]
theorem flat_seg_end {p : Tx} {l : List Tx} (hp : p = flatS l) {j : Nat} {s : Tx} (h : l[j]? = some s) {c : UInt8} (hc : p[(flatS (l.take j)).length + 1 + s.length]? = some c) : c = 47 := by
  rw [hp, flat_at h, List.getElem?_append_right (by omega)] at hc
  rw [show (flatS (l.take j)).length + 1 + s.length - (flatS (l.take j)).length = s.length + 1 from by omega, List.getElem?_cons_succ, List.getElem?_append_right (Nat.le_refl _), Nat.sub_self] at hc
  cases hd : l.drop (j + 1) with
  | nil => rw [hd] at hc; simp [flatS] at hc
  | cons x r => rw [hd, flatS_cons] at hc; simpa using hc.symm
theorem flat_len_le {l : List Tx} {j : Nat} : (flatS (l.take j)).length ≤ (flatS l).length := by
  conv => rhs; rw [← List.take_append_drop j l, flatS_append, List.length_append]
  omega
theorem flat_bound : ∀ (l : List Tx) (b : Nat), (∀ x ∈ l, x.length ≤ b) → (flatS l).length ≤ l.length * (b + 1)
  | [], _, _ => by simp [flatS]
  | x :: r, b, h => by
    have h1 := h x (by simp)
    have ih := flat_bound r b (fun z hz => h z (by simp [hz]))
    rw [flatS_cons]
    simp only [List.length_append, List.length_cons] at ih ⊢
    rw [Nat.add_mul r.length 1, Nat.one_mul]
    omega
/-- What is found, and why. -/
theorem find_why {α : Type} {es : Ents α} (hg : TrP.Good es) {path : List Tx} {p : Tx} {x : α} {ps : List TrQ.Fd} (h : findT es path = some (p, x, ps)) :
    ∃ k l, bestE es [] path = some k ∧ getM k es = some (p, x) ∧ splitP p = some l ∧ k = keysOf l ∧ fits (keysOf l) path = true ∧ ps = params l path := by
  unfold findT at h
  cases hb : bestE es [] path with
  | none => rw [hb] at h; cases h
  | some k =>
    rw [hb] at h
    simp only at h
    cases hv : getM k es with
    | none => rw [hv] at h; cases h
    | some v =>
      rw [hv] at h
      simp only [Option.some.injEq, Prod.mk.injEq] at h
      obtain ⟨h1, h2, h3⟩ := h
      obtain ⟨l, hl, hk⟩ := hg.pat hv
      obtain ⟨m, hm, hf, _⟩ := best_fits es path [] k hb
      rw [List.nil_append] at hm
      subst hm
      refine ⟨k, l, rfl, by rw [hv]; congr 1; exact Prod.ext h1 h2, by rw [← h1]; exact hl, hk, by rw [← hk]; exact hf, ?_⟩
      rw [← h3, hl]; rfl
theorem find_no {α : Type} {es : Ents α} {path : List Tx} (h : findT es path = none) : bestE es [] path = none := by
  unfold findT at h
  cases hb : bestE es [] path with
  | none => rfl
  | some k =>
    rw [hb] at h
    obtain ⟨m, _, _, hs⟩ := best_fits es path [] k hb
    cases hv : getM k es with
    | none => rw [hv] at hs; cases hs
    | some v => simp only [hv] at h; cases h
/-- A trie of what was found alone finds it. -/
theorem find_own {α : Type} {es : Ents α} (hg : TrP.Good es) {path : List Tx} {p : Tx} {x : α} {ps : List TrQ.Fd} (h : findT es path = some (p, x, ps)) :
    ∃ k, addT ([] : Ents α) 1 p x = (0, [(k, p, x)]) ∧ findT [(k, p, x)] path = some (p, x, ps) := by
  obtain ⟨k, l, _, _, hl, hk, hf, hps⟩ := find_why hg h
  refine ⟨k, ?_, ?_⟩
  · unfold addT
    rw [hl]
    simp [getM_nil, hk]
  · unfold findT
    have := best_one (p, x) path [] k (by rw [hk]; exact hf)
    rw [List.nil_append] at this
    rw [this]
    simp only [getM_one, if_true, hl, Option.getD_some, hps]
theorem findT_of {α : Type} {es : Ents α} {path : List Tx} {k : List Key} {v : Tx × α} (hb : bestE es [] path = some k) (hv : getM k es = some v) : findT es path = some (v.1, v.2, params ((splitP v.1).getD []) path) := by
  unfold findT; rw [hb]; simp only [hv]
theorem findT_no {α : Type} {es : Ents α} {path : List Tx} (hb : bestE es [] path = none) : findT es path = none := by
  unfold findT; rw [hb]
/-- One more pattern. -/
theorem find_more {α : Type} {es : Ents α} (hg : TrP.Good es) (path : List Tx) (m : Tx) (x : α) {r : Int} {es2 : Ents α} (ha : addT es 40 m x = (r, es2)) :
    (findT es2 path = findT es path ∧ (r ≠ 0 ∨ (m ≠ [] ∧ ∀ v, findT es path = some v → v.1 ≠ m))) ∨
    (r = 0 ∧ ∃ ps k, findT es2 path = some (m, x, ps) ∧ addT ([] : Ents α) 1 m x = (0, [(k, m, x)]) ∧ findT [(k, m, x)] path = some (m, x, ps)) := by
  have hg2 := hg.add 40 m x
  rw [ha] at hg2
  unfold addT at ha
  cases hl : splitP m with
  | none =>
    rw [hl] at ha
    simp only [Prod.mk.injEq] at ha
    obtain ⟨rfl, rfl⟩ := ha
    exact .inl ⟨rfl, .inl (by decide)⟩
  | some l =>
    rw [hl] at ha
    simp only at ha
    split at ha
    · simp only [Prod.mk.injEq] at ha
      obtain ⟨rfl, rfl⟩ := ha
      exact .inl ⟨rfl, .inl (by decide)⟩
    · rename_i hn
      have hn : getM (keysOf l) es = none := by simpa using hn
      split at ha
      · simp only [Prod.mk.injEq] at ha
        obtain ⟨rfl, rfl⟩ := ha
        exact .inl ⟨rfl, .inl (by decide)⟩
      · simp only [Prod.mk.injEq] at ha
        obtain ⟨rfl, rfl⟩ := ha
        rcases best_snoc es (keysOf l, m, x) path [] with h | h
        · left
          refine ⟨?_, .inr ⟨splitP_pat hl, fun v hv e => ?_⟩⟩
          · cases hb : bestE es [] path with
            | none => rw [hb] at h; rw [findT_no h, findT_no hb]
            | some k =>
              rw [hb] at h
              obtain ⟨_, _, _, hs⟩ := best_fits es path [] k hb
              cases hv : getM k es with
              | none => rw [hv] at hs; cases hs
              | some v =>
                rw [findT_of hb hv, findT_of h (v := v) (by rw [getM_append, hv]; rfl)]
          · obtain ⟨p, y, ps⟩ := v
            obtain ⟨k, l', _, hk, hl', hkl, _⟩ := find_why hg hv
            simp only at e
            subst e
            rw [hl] at hl'
            cases hl'
            rw [hkl, hn] at hk
            cases hk
        · right
          refine ⟨rfl, ?_⟩
          have hv : getM (keysOf l) (es ++ [(keysOf l, m, x)]) = some (m, x) := by
            rw [getM_append, hn, getM_cons, if_pos rfl]; rfl
          have hf := findT_of h hv
          obtain ⟨k, h1, h2⟩ := find_own hg2 hf
          exact ⟨_, k, hf, h1, h2⟩
/-- A trie of numbers. -/
def Ints (es : EntsV) : Prop := ∀ e ∈ es, ∃ z : Int, e.2.2 = .int .i64 z
theorem Ints.nil : Ints [] := by simp [Ints]
theorem Ints.add {es : EntsV} (h : Ints es) (max : Int) (p : Tx) (z : Int) : Ints (addT es max p (.int .i64 z)).2 := by
  unfold addT
  split
  · exact h
  · split
    · exact h
    · split
      · exact h
      · intro e he
        rcases List.mem_append.1 he with he | he
        · exact h e he
        · simp at he; subst he; exact ⟨z, rfl⟩
/-- What Find hands back, of numbers. -/
def Out (o : Option (Tx × Value × List TrQ.Fd)) (z : Int) (p : Tx) (ps : List TrQ.Fd) (ok : Bool) : Prop :=
  (o = none ∧ z = 0 ∧ p = [] ∧ ps = [] ∧ ok = false) ∨ (o = some (p, .int .i64 z, ps) ∧ ok = true)
theorem Out.same {o : Option (Tx × Value × List TrQ.Fd)} {z z' : Int} {p p' : Tx} {ps ps' : List TrQ.Fd} {ok ok' : Bool} (h : Out o z p ps ok) (h' : Out o z' p' ps' ok') : z = z' ∧ p = p' ∧ ps = ps' ∧ ok = ok' := by
  rcases h with ⟨h1, rfl, rfl, rfl, rfl⟩ | ⟨h1, rfl⟩ <;> rcases h' with ⟨h2, rfl, rfl, rfl, rfl⟩ | ⟨h2, rfl⟩
  · exact ⟨rfl, rfl, rfl, rfl⟩
  · rw [h1] at h2; cases h2
  · rw [h1] at h2; cases h2
  · rw [h1] at h2
    cases h2
    exact ⟨rfl, rfl, rfl, rfl⟩
end Go.Proofs.YtlofiaaacepgmaaGreatDoor.TrR
