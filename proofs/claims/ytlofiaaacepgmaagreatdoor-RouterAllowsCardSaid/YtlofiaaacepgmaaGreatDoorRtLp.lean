/-
  What Allow tells: each method that is served, rising, none twice, HEAD if GET is. No program is named here.
-/
import Derived.Test.YtlofiaaacepgmaaGreatDoorRtZ
import Derived.Sort.Walk0
namespace Go.Proofs.YtlofiaaacepgmaaGreatDoor.RtLp
open Go Go.Proofs.YtlofiaaacepgmaaGreatDoor.PathP Go.Proofs.YtlofiaaacepgmaaGreatDoor.Mp Go.Proofs.YtlofiaaacepgmaaGreatDoor.TrP Go.Proofs.YtlofiaaacepgmaaGreatDoor.TrU Go.Proofs.YtlofiaaacepgmaaGreatDoor.WdP Go.Proofs.YtlofiaaacepgmaaGreatDoor.RtP Go.Proofs.YtlofiaaacepgmaaGreatDoor.RtQ Go.Proofs.YtlofiaaacepgmaaGreatDoor.RtV
def wNS : Tx := [78, 79, 45, 83, 85, 67, 72]
theorem right_tok {r : Rt} (h : right r = true) : r.m ≠ [] ∧ (∀ c ∈ r.m, c ≠ 44) ∧ 1 ≤ r.k ∧ r.k ≤ 4 := by
  unfold right at h
  simp only [Bool.and_eq_true, decide_eq_true_eq] at h
  obtain ⟨⟨⟨⟨⟨h1, -⟩, h3⟩, h4⟩, -⟩, -⟩ := h
  unfold isTok at h1
  simp only [Bool.and_eq_true, Bool.not_eq_true', List.all_eq_true] at h1
  refine ⟨fun e => by rw [e] at h1; simp at h1, fun c hc e => ?_, h3, h4⟩
  have := h1.2 c hc
  rw [e] at this
  exact absurd this (by decide)
/-- What a request comes to, where its path is found. -/
theorem serve_found {es : RE} {path : Tx} {sl : List Tx} (hs : segs path = some sl) {p : Tx} {ms : Ms} {ps : List (Tx × Tx)} (hf : findT es (pathOf path) = some (p, ms, ps)) (m body : Tx) :
    serveR es ⟨m, path, body⟩ = match ofM ms m with | none => ((405, [(tAllow, allowM ms)], tNoM), 0) | some r => (answers r body ps, r.k) := by
  unfold serveR
  simp only [hs, hf]
  rfl
structure Ser (es : RE) (l : List Rt) (path body : Tx) (ms : Ms) (ps : List (Tx × Tx)) : Prop where
  eq : ∀ m, serveR es ⟨m, path, body⟩ = match ofM ms m with | none => ((405, [(tAllow, allowM ms)], tNoM), 0) | some r => (answers r body ps, r.k)
  ne : ms ≠ []
  nd : (ms.map (·.1)).Nodup
  of : ∀ e ∈ ms, e.2 ∈ l ∧ e.2.m = e.1 ∧ right e.2 = true
  few : ms.length ≤ l.length
/-- What is told where a method is not served. -/
theorem allows_cases {es : RE} {l : List Rt} (h : RI es l) (hns : ∀ r ∈ l, r.m ≠ wNS) (path body : Tx) :
    (∃ c t, serveR es ⟨wNS, path, body⟩ = ((c, [], t), 0) ∧ (c = 404 ∨ c = 400)) ∨
    ∃ ms ps, serveR es ⟨wNS, path, body⟩ = ((405, [(tAllow, allowM ms)], tNoM), 0) ∧ Ser es l path body ms ps := by
  cases hs : segs path with
  | none => exact .inl ⟨400, tBad, by unfold serveR; simp only [hs], .inr rfl⟩
  | some sl =>
    cases hf : findT es (pathOf path) with
    | none => exact .inl ⟨404, tNot, by unfold serveR; simp only [hs, hf], .inl rfl⟩
    | some v =>
      obtain ⟨p, ms, ps⟩ := v
      obtain ⟨k, hk, -⟩ := findT_some hf
      have h1 := h.ms _ (getM_mem hk)
      simp only at h1
      have hof : ∀ e ∈ ms, e.2 ∈ l ∧ e.2.m = e.1 ∧ right e.2 = true := fun e he => by
        obtain ⟨m, r⟩ := e
        rw [h1.1] at he
        obtain ⟨h2, -, h3⟩ := mem_rts.1 he
        exact ⟨h2, h3, h.rt r h2⟩
      have hno : ofM ms wNS = none := by
        unfold ofM
        rw [if_neg (by decide)]
        have : getM wNS ms = none := getM_none.2 fun hm => by
          obtain ⟨e, he, e1⟩ := List.mem_map.1 hm
          obtain ⟨h2, h3, -⟩ := hof e he
          exact hns _ h2 (h3.trans e1)
        rw [this]; rfl
      refine .inr ⟨ms, ps, ?_, fun m => serve_found hs hf m body, h1.2, by rw [h1.1]; exact rts_nodup h.pw _, hof, by rw [h1.1]; unfold rts; rw [List.length_map]; exact List.length_filter_le _ _⟩
      rw [serve_found hs hf, hno]
theorem sorted_lt {l : List Tx} (hn : l.Nodup) (hs : l.Pairwise (· ≤ ·)) : l.Pairwise (· < ·) := by
  refine (hs.and hn).imp fun {a b} h => ?_
  rcases List.le_iff_lt_or_eq.1 h.1 with h1 | h1
  · exact h1
  · exact absurd h1 h.2
theorem headed_nodup {l : List Tx} (h : l.Nodup) : (headed l).Nodup := by
  unfold headed
  split
  · rename_i hc
    exact List.nodup_append.2 ⟨h, by simp, fun a ha b hb e => by simp at hb; subst hb; subst e; exact hc.2 ha⟩
  · exact h
/-- The methods that Allow tells. -/
structure All (ms : Ms) (S : List Tx) : Prop where
  eq : allowM ms = joinC S
  lt : S.Pairwise (· < ·)
  ne : S ≠ []
  few : S.length ≤ ms.length + 1
  ser : ∀ y ∈ S, ∃ r, ofM ms y = some r ∧ ∃ m, (m, r) ∈ ms
  key : ∀ y ∈ S, y = wHEAD ∨ ∃ r, (y, r) ∈ ms
  get : wGET ∈ S → wHEAD ∈ S
theorem mem_key {ms : Ms} {y : Tx} (h : y ∈ ms.map (·.1)) : ∃ r, (y, r) ∈ ms := by
  obtain ⟨⟨m, r⟩, hm, rfl⟩ := List.mem_map.1 h
  exact ⟨r, hm⟩
theorem all_of {ms : Ms} (hne : ms ≠ []) (hn : (ms.map (·.1)).Nodup) : All ms (sortS (headed (ms.map (·.1)))) := by
  have hp := List.mergeSort_perm (headed (ms.map (·.1))) fun x y => decide (x ≤ y)
  have hmem : ∀ y, y ∈ sortS (headed (ms.map (·.1))) ↔ y ∈ headed (ms.map (·.1)) := fun y => hp.mem_iff
  have hh : ∀ y ∈ headed (ms.map (·.1)), y ∈ ms.map (·.1) ∨ (y = wHEAD ∧ wGET ∈ ms.map (·.1)) := by
    intro y hy
    unfold headed at hy
    split at hy
    · rename_i hc
      rcases List.mem_append.1 hy with h | h
      · exact .inl h
      · simp at h; exact .inr ⟨h, hc.1⟩
    · exact .inl hy
  refine ⟨rfl, sorted_lt (hp.nodup_iff.2 (headed_nodup hn)) (sortS_sorted _), ?_, ?_, ?_, ?_, ?_⟩
  · intro e
    have : (sortS (headed (ms.map (·.1)))).length = (headed (ms.map (·.1))).length := hp.length_eq
    rw [e] at this
    unfold headed at this
    cases ms with
    | nil => exact hne rfl
    | cons x xs => split at this <;> simp at this
  · have : (sortS (headed (ms.map (·.1)))).length = (headed (ms.map (·.1))).length := hp.length_eq
    rw [this]
    unfold headed
    split <;> simp
  · intro y hy
    rcases hh y ((hmem y).1 hy) with h | ⟨rfl, h⟩
    · obtain ⟨r, hr⟩ := mem_key h
      exact ⟨r, by unfold ofM; rw [getM_of_mem hn hr]; rfl, y, hr⟩
    · cases hg : getM wHEAD ms with
      | some r => exact ⟨r, by unfold ofM; rw [hg]; rfl, wHEAD, getM_mem hg⟩
      | none =>
        obtain ⟨r, hr⟩ := mem_key h
        exact ⟨r, by unfold ofM; rw [hg, if_pos rfl, getM_of_mem hn hr]; rfl, wGET, hr⟩
  · intro y hy
    rcases hh y ((hmem y).1 hy) with h | ⟨rfl, h⟩
    · exact .inr (mem_key h)
    · exact .inl rfl
  · intro hg
    have h1 := (hmem _).1 hg
    refine (hmem _).2 ?_
    unfold headed at h1 ⊢
    split
    · simp
    · rename_i hc
      rw [if_neg hc] at h1
      exact Classical.byContradiction fun h2 => hc ⟨h1, h2⟩
/-- The words of Allow, and a comma behind each. -/
def flat (S : List Tx) : Tx := S.flatMap fun y => y ++ [44, 32]
theorem flat_nil : flat [] = [] := rfl
theorem flat_append (S T : List Tx) : flat (S ++ T) = flat S ++ flat T := by simp [flat]
theorem joinC_flat : ∀ {S : List Tx}, S ≠ [] → joinC S ++ [44, 32] = flat S
  | [], h => absurd rfl h
  | [x], _ => by simp [joinC, flat]
  | x :: y :: r, _ => by
    have ih := joinC_flat (S := y :: r) (by simp)
    have e : flat (x :: y :: r) = (x ++ [44, 32]) ++ flat (y :: r) := by simp [flat]
    rw [e, ← ih]
    show (x ++ 44 :: 32 :: joinC (y :: r)) ++ [44, 32] = _
    simp
theorem flat_split {S : List Tx} {j : Nat} {y : Tx} (hy : S[j]? = some y) : flat S = flat (S.take j) ++ (y ++ (44 :: 32 :: flat (S.drop (j + 1)))) := by
  obtain ⟨hj, e⟩ := List.getElem?_eq_some_iff.1 hy
  conv => lhs; rw [← List.take_append_drop j S, List.drop_eq_getElem_cons hj, e]
  rw [flat_append]
  congr 1
  simp [flat]
theorem flat_len_le {S : List Tx} {K : Nat} (h : ∀ y ∈ S, y.length ≤ K) : (flat S).length ≤ S.length * (K + 2) := by
  induction S with
  | nil => simp [flat]
  | cons x S ih =>
    have h1 := ih fun y hy => h y (by simp [hy])
    have h2 := h x (by simp)
    have e : flat (x :: S) = (x ++ [44, 32]) ++ flat S := by simp [flat]
    have e2 : (x :: S).length = S.length + 1 := rfl
    rw [e, List.length_append, List.length_append, e2, Nat.succ_mul]
    simp only [List.length_cons, List.length_nil]
    omega
theorem take_step {S : List Tx} {j : Nat} {y : Tx} (hy : S[j]? = some y) : flat (S.take (j + 1)) = flat (S.take j) ++ (y ++ [44, 32]) := by
  rw [List.take_add_one, hy, flat_append]; simp [flat]
/-- Who was last. -/
def lastO (S : List Tx) (j : Nat) : Tx := if j = 0 then [] else (S[j - 1]?).getD []
theorem last_lt {ms : Ms} {S : List Tx} (h : All ms S) (hne : ∀ y ∈ S, y ≠ []) {j : Nat} {y : Tx} (hy : S[j]? = some y) : lastO S j < y := by
  have hyne := hne y (List.mem_of_getElem? hy)
  unfold lastO
  split
  · cases y with
    | nil => exact absurd rfl hyne
    | cons c r => simp
  · rename_i hj
    obtain ⟨h1, e1⟩ := List.getElem?_eq_some_iff.1 hy
    have h2 : j - 1 < S.length := by omega
    rw [List.getElem?_eq_getElem h2, Option.getD_some]
    have := List.pairwise_iff_getElem.1 h.lt (j - 1) j h2 h1 (by omega)
    rwa [e1] at this
theorem last_next {S : List Tx} {j : Nat} {y : Tx} (hy : S[j]? = some y) : lastO S (j + 1) = y := by
  unfold lastO; rw [if_neg (by omega), Nat.add_sub_cancel, hy]; rfl
theorem last_ne {S : List Tx} (hS : S ≠ []) (hne : ∀ y ∈ S, y ≠ []) : lastO S S.length ≠ [] := by
  have : 0 < S.length := by cases S with | nil => exact absurd rfl hS | cons _ _ => simp
  unfold lastO
  rw [if_neg (by omega), List.getElem?_eq_getElem (by omega), Option.getD_some]
  exact hne _ (List.getElem_mem _)
theorem answers_code (r : Rt) (b : Tx) (ps : List (Tx × Tx)) : (answers r b ps).1 = 200 ∨ (answers r b ps).1 = 101 := by
  unfold answers
  split
  · exact .inl rfl
  · split
    · exact .inl rfl
    · split
      · exact .inr rfl
      · exact .inl rfl
theorem mem_take {S : List Tx} {j : Nat} {y x : Tx} (hy : S[j]? = some y) : decide (x ∈ S.take (j + 1)) = (decide (x ∈ S.take j) || (y == x)) := by
  rw [List.take_add_one, hy]
  by_cases h1 : x ∈ S.take j
  · simp [h1]
  · by_cases h2 : y = x
    · simp [h2]
    · simp [h1, h2, Ne.symm h2]
/-- All that the walk asks. -/
structure Fc (es : RE) (l : List Rt) (path body : Tx) (S : List Tx) : Prop where
  tok : ∀ y ∈ S, y ≠ [] ∧ (∀ c ∈ y, c ≠ 44) ∧ y.length ≤ 1000
  sv : ∀ y ∈ S, ∃ cd bd k, serveR es ⟨y, path, body⟩ = ((cd, [], bd), k) ∧ (cd = 200 ∨ cd = 101) ∧ (k == 0) = false
  lt : ∀ j y, S[j]? = some y → Op.bytesLess y (lastO S j) = false ∧ (y == lastO S j) = false
  ne : S ≠ []
  last : lastO S S.length ≠ []
  len : S.length ≤ 33
  get : wGET ∈ S → wHEAD ∈ S
  head : (∀ r ∈ l, r.m ≠ wHEAD) → wGET ∈ S → serveR es ⟨wHEAD, path, body⟩ = serveR es ⟨wGET, path, body⟩
theorem fc_of {es : RE} {l : List Rt} {path body : Tx} {ms : Ms} {ps : List (Tx × Tx)} (h : Ser es l path body ms ps) (hl : l.length ≤ 32) (hlen : ∀ r ∈ l, r.m.length ≤ 1000) : ∃ S, allowM ms = joinC S ∧ Fc es l path body S := by
  have hA := all_of h.ne h.nd
  generalize sortS (headed (ms.map (·.1))) = S at hA
  have htok : ∀ y ∈ S, y ≠ [] ∧ (∀ c ∈ y, c ≠ 44) ∧ y.length ≤ 1000 := by
    intro y hy
    rcases hA.key y hy with rfl | ⟨r, hr⟩
    · exact ⟨by decide, by decide, by decide⟩
    · obtain ⟨h2, h3, h4⟩ := h.of _ hr
      simp only at h2 h3 h4
      have h5 := right_tok h4
      rw [h3] at h5
      exact ⟨h5.1, h5.2.1, by rw [← h3]; exact hlen r h2⟩
  refine ⟨S, hA.eq, htok, ?_, ?_, hA.ne, last_ne hA.ne fun y hy => (htok y hy).1, by have := hA.few; have := h.few; omega, hA.get, ?_⟩
  · intro y hy
    obtain ⟨r, hr, m, hm⟩ := hA.ser y hy
    obtain ⟨-, -, h4⟩ := h.of _ hm
    obtain ⟨-, -, hk, -⟩ := right_tok h4
    have h5 := answers_code r body ps
    have h6 : (answers r body ps).2.1 = [] := answers_nil rfl
    refine ⟨(answers r body ps).1, (answers r body ps).2.2, r.k, ?_, h5, by simp only [beq_eq_false_iff_ne]; simp only at hk; omega⟩
    rw [h.eq, hr]
    simp only
    rw [← h6]
  · intro j y hy
    have h1 := last_lt hA (fun y hy => (htok y hy).1) hy
    constructor
    · rw [bytesLess_eq]
      exact decide_eq_false fun h2 => List.lt_irrefl _ (List.lt_trans h1 h2)
    · rw [beq_eq_false_iff_ne]
      intro e
      rw [e] at h1
      exact List.lt_irrefl _ h1
  · intro hno hg
    rw [h.eq, h.eq]
    have hn : getM wHEAD ms = none := getM_none.2 fun hm => by
      obtain ⟨e, he, e1⟩ := List.mem_map.1 hm
      obtain ⟨h2, h3, -⟩ := h.of e he
      exact hno _ h2 (h3.trans e1)
    have : ofM ms wHEAD = ofM ms wGET := by
      unfold ofM
      rw [hn, if_pos rfl, if_neg (by decide)]
      cases getM wGET ms <;> rfl
    rw [this]
theorem flat_len {es : RE} {l : List Rt} {path body : Tx} {S : List Tx} (h : Fc es l path body S) : (flat S).length ≤ 40000 := by
  have h1 := flat_len_le (S := S) (K := 1000) fun y hy => (h.tok y hy).2.2
  have := h.len
  have : S.length * (1000 + 2) ≤ 33 * (1000 + 2) := Nat.mul_le_mul_right _ h.len
  omega
/-- Where the words lie. -/
structure At (fs y : Tx) (a : Nat) : Prop where
  lt : a + y.length + 2 ≤ fs.length
  ne : ∀ p, a ≤ p → p < a + y.length → ∀ c, fs[p]? = some c → c ≠ 44
  comma : fs[a + y.length]? = some 44
  cut : (fs.drop a).take (a + y.length - a) = y
theorem at_of {S : List Tx} {j : Nat} {y : Tx} (hy : S[j]? = some y) (hc : ∀ c ∈ y, c ≠ 44) : At (flat S) y (flat (S.take j)).length := by
  have e := flat_split hy
  generalize flat (S.take j) = A at *
  generalize flat (S.drop (j + 1)) = B at *
  rw [e]
  refine ⟨by simp; omega, ?_, ?_, ?_⟩
  · intro p h1 h2 c hpc
    rw [List.getElem?_append_right h1, List.getElem?_append_left (by omega)] at hpc
    exact hc c (List.mem_of_getElem? hpc)
  · rw [List.getElem?_append_right (by omega), List.getElem?_append_right (by omega)]
    simp [Nat.add_sub_cancel_left]
  · rw [List.drop_left, Nat.add_sub_cancel_left, List.take_left]
end Go.Proofs.YtlofiaaacepgmaaGreatDoor.RtLp
