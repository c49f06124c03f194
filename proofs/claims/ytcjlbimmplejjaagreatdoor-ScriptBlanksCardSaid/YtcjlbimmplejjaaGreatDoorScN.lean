/-
  Blanks more about a line, and what is not read behind it. No program is named here.
-/
import Derived.Test.YtcjlbimmplejjaaGreatDoorScT
namespace Go.Proofs.YtcjlbimmplejjaaGreatDoor.ScN
open Go Go.Proofs.YtcjlbimmplejjaaGreatDoor.WdP Go.Proofs.YtcjlbimmplejjaaGreatDoor.ScP Go.Proofs.YtcjlbimmplejjaaGreatDoor.ScQ Go.Proofs.YtcjlbimmplejjaaGreatDoor.ScT

def tl (rem : Tx) : Tx := 32 :: 35 :: rem
theorem bl_ext (rem : Tx) : ∀ y : Tx, bl (y ++ tl rem) = if bl y = [] then [] else bl y ++ tl rem
  | [] => by rw [List.nil_append, tl, bl_blank, bl_hash]; rfl
  | c :: y => by
    by_cases h1 : c = 32
    · subst h1
      rw [List.cons_append, bl_blank, bl_blank]
      exact bl_ext rem y
    · by_cases h2 : c = 35
      · subst h2
        rw [List.cons_append, bl_hash, bl_hash]; rfl
      · rw [List.cons_append, bl_word _ h1 h2, bl_word _ h1 h2]; simp
theorem take_ext (rem : Tx) : ∀ z : Tx, (z ++ tl rem).takeWhile (· != 32) = z.takeWhile (· != 32) ∧ (z ++ tl rem).dropWhile (· != 32) = z.dropWhile (· != 32) ++ tl rem
  | [] => ⟨rfl, rfl⟩
  | c :: z => by
    have ih := take_ext rem z
    cases hc : (c != 32)
    · simp [hc, tl]
    · simp only [List.cons_append, List.takeWhile_cons, List.dropWhile_cons, hc, if_true, ih.1, ih.2, and_self]
def Ext (rem y y' : Tx) : Prop := y' = y ++ tl rem ∨ (bl y = [] ∧ bl y' = [])
theorem Ext.blE {rem y y' : Tx} (h : Ext rem y y') : bl y = [] ↔ bl y' = [] := by
  rcases h with rfl | ⟨h1, h2⟩
  · rw [bl_ext]
    split
    · simp [*]
    · rename_i h; simp [h, tl]
  · simp [h1, h2]
theorem Ext.wdE {rem y y' : Tx} (h : Ext rem y y') : wd y' = wd y ∧ Ext rem (rs y) (rs y') := by
  rcases h with rfl | ⟨h1, h2⟩
  · by_cases hb : bl y = []
    · have h1 := bl_ext rem y
      rw [if_pos hb] at h1
      unfold wd rs
      rw [h1, hb]
      exact ⟨rfl, .inr ⟨rfl, rfl⟩⟩
    · have h1 := bl_ext rem y
      rw [if_neg hb] at h1
      unfold wd rs
      rw [h1]
      exact ⟨(take_ext rem _).1, .inl (take_ext rem _).2⟩
  · unfold wd rs
    rw [h1, h2]
    exact ⟨rfl, .inr ⟨rfl, rfl⟩⟩
theorem esc_app {s : Tx} {c : UInt8} {r : Tx} (T : Tx) (h : esc s = some (c, r)) : esc (s ++ T) = some (c, r ++ T) := by
  unfold esc at h
  split at h
  · cases h
  · rename_i d q
    rw [List.cons_append]
    unfold esc
    simp only
    split at h
    · cases h; rw [if_pos (by assumption)]
    · rename_i h1; rw [if_neg h1]
      split at h
      · cases h; rw [if_pos (by assumption)]
      · rename_i h2; rw [if_neg h2]
        split at h
        · cases h; rw [if_pos (by assumption)]
        · rename_i h3; rw [if_neg h3]
          split at h
          · cases h; rw [if_pos (by assumption)]
          · rename_i h4; rw [if_neg h4]
            split at h
            · rename_i h5; rw [if_pos h5]
              split at h
              · split at h
                · rename_i hx hy
                  cases h
                  simp only [List.cons_append, hx, hy]
                · cases h
              · cases h
            · cases h
theorem step_app {s : Tx} {c : UInt8} {r : Tx} (T : Tx) (h : nib s = some (c, r)) : nib (s ++ T) = some (c, r ++ T) := by
  unfold nib at h
  split at h
  · cases h
  · rename_i d q
    rw [List.cons_append, nib]
    split at h
    · rw [if_pos (by assumption)]; exact esc_app T h
    · rename_i h1; rw [if_neg h1]
      split at h
      · cases h; rw [if_pos (by assumption)]
      · cases h
theorem scan_app (T : Tx) (s : Tx) : ∀ t q, scan s = some (t, q) → scan (s ++ T) = some (t, q ++ T) := by
  refine scan_ind (P := fun s => ∀ t q, scan s = some (t, q) → scan (s ++ T) = some (t, q ++ T)) ?_ ?_ ?_ (s.length + 1) s (by omega)
  · intro r t q h
    rw [scan_mark] at h
    cases h
    rw [List.cons_append, scan_mark]
  · intro s h hs t q h1
    rw [scan_none h hs] at h1; cases h1
  · intro s c r h hs ih t q h1
    rw [scan_step h hs] at h1
    cases hr : scan r with
    | none => rw [hr] at h1; cases h1
    | some x =>
      obtain ⟨t1, q1⟩ := x
      rw [hr] at h1
      simp only [Option.map_some, Option.some.injEq, Prod.mk.injEq] at h1
      obtain ⟨rfl, rfl⟩ := h1
      have hne : (s ++ T).head? ≠ some 34 := by
        cases s with
        | nil => simp [nib] at hs
        | cons d s => simpa using h
      rw [scan_step hne (step_app T hs), ih _ _ hr]; rfl
theorem Ext.text {rem y y' : Tx} (h : Ext rem y y') : (∀ t q, textP y = some (t, q) → ∃ q', textP y' = some (t, q') ∧ Ext rem q q') ∧ (textP y = none → 34 ∈ y ∨ textP y' = none) := by
  have hbn : ∀ z, bl z = [] → textP z = none := fun z hz => by unfold textP; rw [hz, if_neg (by simp)]
  have hmem : ∀ z : Tx, (bl z).head? = some 34 → (34 : UInt8) ∈ z := by
    intro z hz
    have h1 : (34 : UInt8) ∈ bl z := List.mem_of_mem_head? hz
    unfold bl at h1
    split at h1
    · cases h1
    · exact (List.dropWhile_sublist _).subset h1
  by_cases hb : bl y = []
  · have hb' := h.blE.1 hb
    exact ⟨fun t q hq => (by rw [hbn y hb] at hq; cases hq), fun _ => .inr (hbn y' hb')⟩
  · rcases h with rfl | ⟨h1, -⟩
    · have h1 := bl_ext rem y
      rw [if_neg hb] at h1
      obtain ⟨c, r, hc⟩ : ∃ c r, bl y = c :: r := by
        cases hy : bl y with
        | nil => exact absurd hy hb
        | cons c r => exact ⟨c, r, rfl⟩
      rw [hc] at h1
      refine ⟨fun t q hq => ?_, fun hn => ?_⟩
      · unfold textP at hq ⊢
        rw [hc] at hq
        rw [h1]
        split at hq
        · rename_i h34
          rw [if_pos (by simpa using h34)]
          simp only [List.cons_append, List.tail_cons] at hq ⊢
          cases hr : scan r with
          | none => rw [hr] at hq; cases hq
          | some x =>
            obtain ⟨t1, q1⟩ := x
            rw [hr] at hq
            rw [scan_app _ _ _ _ hr]
            simp only at hq ⊢
            split at hq
            · rename_i hk
              cases hq
              have h5 : (q ++ tl rem).head? = some 32 := by
                rcases hk.2 with h | h
                · rw [h]; rfl
                · cases q with
                  | nil => cases h
                  | cons a q => simpa using h
              exact ⟨q ++ tl rem, if_pos ⟨hk.1, .inr h5⟩, .inl rfl⟩
            · cases hq
        · cases hq
      · by_cases h34 : c = 34
        · exact .inl (hmem y (by rw [hc, h34]; rfl))
        · right
          unfold textP
          rw [h1, if_neg (by simpa using h34)]
    · exact absurd h1 hb
theorem rs_mem {a : UInt8} {y : Tx} (h : a ∈ rs y) : a ∈ y := by
  have h1 : a ∈ bl y := (List.dropWhile_sublist _).subset h
  unfold bl at h1
  split at h1
  · cases h1
  · exact (List.dropWhile_sublist _).subset h1
theorem step_mem {a : UInt8} {s : Tx} {c : UInt8} {r : Tx} (h : nib s = some (c, r)) (ha : a ∈ r) : a ∈ s := by
  have key : ∀ {s : Tx} {c : UInt8} {r : Tx}, esc s = some (c, r) → a ∈ r → a ∈ s := by
    intro s c r h ha
    unfold esc at h
    split at h
    · cases h
    · split at h
      · cases h; simp [ha]
      · split at h
        · cases h; simp [ha]
        · split at h
          · cases h; simp [ha]
          · split at h
            · cases h; simp [ha]
            · split at h
              · split at h
                · split at h
                  · cases h; simp [ha]
                  · cases h
                · cases h
              · cases h
  unfold nib at h
  split at h
  · cases h
  · split at h
    · have := key h ha; simp [this]
    · split at h
      · cases h; simp [ha]
      · cases h
theorem scan_mem {a : UInt8} (s : Tx) : ∀ t q, scan s = some (t, q) → a ∈ q → a ∈ s := by
  refine scan_ind (P := fun s => ∀ t q, scan s = some (t, q) → a ∈ q → a ∈ s) ?_ ?_ ?_ (s.length + 1) s (by omega)
  · intro r t q h ha
    rw [scan_mark] at h
    cases h; simp [ha]
  · intro s h hs t q h1
    rw [scan_none h hs] at h1; cases h1
  · intro s c r h hs ih t q h1 ha
    rw [scan_step h hs] at h1
    cases hr : scan r with
    | none => rw [hr] at h1; cases h1
    | some x =>
      obtain ⟨t1, q1⟩ := x
      rw [hr] at h1
      simp only [Option.map_some, Option.some.injEq, Prod.mk.injEq] at h1
      obtain ⟨rfl, rfl⟩ := h1
      exact step_mem hs (ih _ _ hr ha)
theorem text_mem {a : UInt8} {y t q : Tx} (h : textP y = some (t, q)) (ha : a ∈ q) : a ∈ y := by
  unfold textP at h
  split at h
  · split at h
    · rename_i t1 q1 hs
      split at h
      · cases h
        have h1 := List.mem_of_mem_tail (scan_mem _ _ _ hs ha)
        unfold bl at h1
        split at h1
        · cases h1
        · exact (List.dropWhile_sublist _).subset h1
      · cases h
    · cases h
  · cases h
theorem Ext.take {rem y y' : Tx} (hx : Ext rem y y') (h : Shp) : (∀ x, takeA h y = some x → takeA h y' = some x) ∧ (takeA h y = none → 34 ∈ y ∨ takeA h y' = none) := by
  have hC : ∀ {y y' : Tx}, Ext rem y y' → (∀ n z, takeC h y = some (n, z) → ∃ z', takeC h y' = some (n, z') ∧ Ext rem z z' ∧ (34 ∈ z → (34 : UInt8) ∈ y)) ∧ (takeC h y = none → takeC h y' = none) := by
    intro y y' hx
    unfold takeC
    split
    · rw [hx.wdE.1]
      cases numM 7 (wd y) with
      | none => exact ⟨fun n z h => (by cases h), fun _ => rfl⟩
      | some v =>
        refine ⟨fun n z h => ?_, fun h => by cases h⟩
        cases h
        exact ⟨_, rfl, hx.wdE.2, rs_mem⟩
    · refine ⟨fun n z h => ?_, fun h => by cases h⟩
      cases h
      exact ⟨_, rfl, hx, id⟩
  have hN : ∀ {y y' : Tx}, Ext rem y y' → (∀ n z, takeN h y = some (n, z) → ∃ z', takeN h y' = some (n, z') ∧ Ext rem z z') ∧ (takeN h y = none → takeN h y' = none) := by
    intro y y' hx
    unfold takeN
    split
    · rename_i m _
      rw [hx.wdE.1]
      cases numM m (wd y) with
      | none => exact ⟨fun n z h => (by cases h), fun _ => rfl⟩
      | some v =>
        refine ⟨fun n z h => ?_, fun h => by cases h⟩
        cases h
        exact ⟨_, rfl, hx.wdE.2⟩
    · refine ⟨fun n z h => ?_, fun h => by cases h⟩
      cases h
      exact ⟨_, rfl, hx⟩
  have hS : ∀ {y y' : Tx}, Ext rem y y' → (∀ t q, takeS h y = some (t, q) → ∃ q', takeS h y' = some (t, q') ∧ Ext rem q q') ∧ (takeS h y = none → 34 ∈ y ∨ takeS h y' = none) := by
    intro y y' hx
    unfold takeS
    split
    · exact hx.text
    · refine ⟨fun n z h => ?_, fun h => by cases h⟩
      cases h
      exact ⟨_, rfl, hx⟩
  unfold takeA
  cases hc : takeC h y with
  | none => rw [(hC hx).2 hc]; exact ⟨fun x h => (by cases h), fun _ => .inr rfl⟩
  | some v =>
    obtain ⟨n1, z1⟩ := v
    obtain ⟨z1', e1, x1, m1⟩ := (hC hx).1 _ _ hc
    rw [e1]
    simp only
    cases hs : takeS h z1 with
    | none =>
      simp only
      refine ⟨fun x h => (by cases h), fun _ => ?_⟩
      rcases (hS x1).2 hs with h | h
      · exact .inl (m1 h)
      · right; rw [h]
    | some v =>
      obtain ⟨t, z2⟩ := v
      obtain ⟨z2', e2, x2⟩ := (hS x1).1 _ _ hs
      rw [e2]
      simp only
      cases hn : takeN h z2 with
      | none => rw [(hN x2).2 hn]; exact ⟨fun x h => (by cases h), fun _ => .inr rfl⟩
      | some v =>
        obtain ⟨n3, z3⟩ := v
        obtain ⟨z3', e3, x3⟩ := (hN x2).1 _ _ hn
        rw [e3]
        simp only
        by_cases hb : bl z3 = []
        · rw [if_pos hb, if_pos (x3.blE.1 hb)]
          exact ⟨fun x h => h, fun h => by cases h⟩
        · rw [if_neg hb, if_neg fun h => hb (x3.blE.2 h)]
          exact ⟨fun x h => (by cases h), fun _ => .inr rfl⟩

/-! ### Lines -/
def dbl (st : List Blk) : List Blk := st.map fun b => { b with line := 2 * b.line }
theorem bl_pad (m : Nat) (y : Tx) : bl (List.replicate m 32 ++ y) = bl y := by
  induction m with
  | zero => rfl
  | succ m ih => rw [List.replicate_succ, List.cons_append, bl_blank, ih]
theorem wd_pad (m : Nat) (y : Tx) : wd (List.replicate m 32 ++ y) = wd y ∧ rs (List.replicate m 32 ++ y) = rs y := by
  unfold wd rs; rw [bl_pad]; exact ⟨rfl, rfl⟩
theorem pad_line (st : List Blk) (m n : Nat) : lineP st (List.replicate m 32) n = some st := by
  have := (wd_pad m []).1
  rw [List.append_nil] at this
  unfold lineP
  rw [this, if_pos (by rfl)]
theorem addB_line (b : Blk) (l : List Ac) (m t y : Nat) : addB { b with line := y } l m t = { addB b l m t with line := y } := by
  unfold addB
  split
  · rfl
  · simp only
    split <;> rfl
theorem dbl_line {st : List Blk} {s : Tx} {n m : Nat} (rem : Tx) :
    (∀ st', lineP st s n = some st' → lineP (dbl st) (List.replicate m 32 ++ (s ++ tl rem)) (2 * n) = some (dbl st')) ∧
    (lineP st s n = none → 34 ∈ s ∨ lineP (dbl st) (List.replicate m 32 ++ (s ++ tl rem)) (2 * n) = none) := by
  have hx : Ext rem s (s ++ tl rem) := .inl rfl
  have hw := hx.wdE
  have hp := wd_pad m (s ++ tl rem)
  have hlen : (dbl st).length = st.length := by simp [dbl]
  have hr2 := hw.2.wdE
  unfold lineP
  rw [hp.1, hp.2, hw.1]
  by_cases h1 : wd s = []
  · rw [if_pos h1, if_pos h1]
    exact ⟨fun st' h => (by cases h; rfl), fun h => by cases h⟩
  · rw [if_neg h1, if_neg h1]
    by_cases h2 : wd s = wTimes
    · rw [if_pos h2, if_pos h2, hr2.1]
      cases hn : numM 1000 (wd (rs s)) with
      | none => exact ⟨fun st' h => (by cases h), fun _ => .inr rfl⟩
      | some k =>
        simp only
        rw [hlen]
        by_cases h3 : bl (rs (rs s)) = [] ∧ st.length ≤ 8
        · rw [if_pos h3, if_pos ⟨hr2.2.blE.1 h3.1, h3.2⟩]
          exact ⟨fun st' h => (by cases h; rfl), fun h => by cases h⟩
        · rw [if_neg h3, if_neg fun h => h3 ⟨hr2.2.blE.2 h.1, h.2⟩]
          exact ⟨fun st' h => (by cases h), fun _ => .inr rfl⟩
    · rw [if_neg h2, if_neg h2]
      by_cases h3 : wd s = wEnd
      · rw [if_pos h3, if_pos h3]
        match st with
        | [] => exact ⟨fun st' h => (by cases h), fun _ => .inr rfl⟩
        | [b] => exact ⟨fun st' h => (by cases h), fun _ => .inr rfl⟩
        | b :: c :: q =>
          simp only [dbl, List.map_cons]
          by_cases h4 : bl (rs s) = []
          · rw [if_pos h4, if_pos (hw.2.blE.1 h4)]
            refine ⟨fun st' h => ?_, fun h => by cases h⟩
            cases h
            simp only [List.map_cons, addB_line, (addB_times _ _ _ _).2]
          · rw [if_neg h4, if_neg fun h => h4 (hw.2.blE.2 h)]
            exact ⟨fun st' h => (by cases h), fun _ => .inr rfl⟩
      · rw [if_neg h3, if_neg h3]
        unfold actP
        cases hs : shp (wd s) with
        | none => exact ⟨fun st' h => (by cases h), fun _ => .inr rfl⟩
        | some h =>
          simp only [Option.bind_some]
          have ht := hw.2.take h
          cases ha : takeA h (rs s) with
          | none =>
            refine ⟨fun st' h => (by cases h), fun _ => ?_⟩
            rcases ht.2 ha with h5 | h5
            · exact .inl (rs_mem h5)
            · right; rw [h5]
          | some x =>
            rw [ht.1 x ha]
            simp only
            match st with
            | [] => exact ⟨fun st' h => (by cases h), fun _ => .inr rfl⟩
            | b :: q =>
              simp only [dbl, List.map_cons]
              refine ⟨fun st' h => ?_, fun h => by cases h⟩
              cases h
              simp only [List.map_cons, addB_line, (addB_times _ _ _ _).2]
def two (m : Nat) (rem : Tx) (l : List Tx) : List Tx := l.flatMap fun x => [List.replicate m 32, List.replicate m 32 ++ (x ++ tl rem)]
theorem two_cons (m : Nat) (rem x : Tx) (l : List Tx) : two m rem (x :: l) = List.replicate m 32 :: (List.replicate m 32 ++ (x ++ tl rem)) :: two m rem l := rfl
theorem dbl_go (m : Nat) (rem : Tx) : ∀ (l : List Tx) (i : Nat) (st : List Blk),
    (∀ st', goP l i st = .ok st' → goP (two m rem l) (2 * i) (dbl st) = .ok (dbl st')) ∧
    (∀ n, goP l i st = .error n → goP (two m rem l) (2 * i) (dbl st) = .error (2 * n) ∨
      ((∃ j x, n = i + j + 1 ∧ l[j]? = some x ∧ 34 ∈ x) ∧ ∀ k, goP (two m rem l) (2 * i) (dbl st) = .error k → 2 * n < k))
  | [], i, st => ⟨fun st' h => by simp [goP] at h; subst h; rfl, fun n h => by simp [goP] at h⟩
  | s :: l, i, st => by
    obtain ⟨hA, hB⟩ := dbl_line (st := st) (s := s) (n := i + 1) (m := m) rem
    rw [two_cons]
    simp only [goP, pad_line]
    rw [show 2 * i + 1 + 1 = 2 * (i + 1) from by omega]
    cases hl : lineP st s (i + 1) with
    | none =>
      refine ⟨fun st' h => (by simp at h), fun n h => ?_⟩
      simp only [Except.error.injEq] at h
      subst h
      rcases hB hl with h1 | h1
      · cases h2 : lineP (dbl st) (List.replicate m 32 ++ (s ++ tl rem)) (2 * (i + 1)) with
        | none => exact .inl rfl
        | some s2 =>
          refine .inr ⟨⟨0, s, by omega, rfl, h1⟩, fun k hk => ?_⟩
          simp only at hk
          obtain ⟨j, x, sk, rfl, -⟩ := goP_error _ _ _ _ hk
          omega
      · left; rw [h1]
    | some s1 =>
      rw [hA s1 hl]
      simp only
      obtain ⟨ihA, ihB⟩ := dbl_go m rem l (i + 1) s1
      refine ⟨ihA, fun n h => ?_⟩
      rcases ihB n h with h1 | ⟨⟨j, x, rfl, hx, h34⟩, h2⟩
      · exact .inl h1
      · exact .inr ⟨⟨j + 1, x, by omega, by simpa using hx, h34⟩, h2⟩
theorem blanks_law {t rem u : Tx} {m : Nat} (ht : t.length ≤ 65536) (hu : u.length ≤ 65536) (hl : lns u = two m rem (lns t)) {l l' : List Ac} {line e line' e' : Nat} (hp : parseP t = (l, line, e)) (hq : parseP u = (l', line', e')) :
    (e = e' ∧ line' = 2 * line ∧ l = l') ∨ (e = 8 ∧ (∃ j x, line = j + 1 ∧ (lns t)[j]? = some x ∧ 34 ∈ x) ∧ (e' ≠ 8 ∨ 2 * line < line')) := by
  obtain ⟨hA, hB⟩ := dbl_go m rem (lns t) 0 st0
  rw [show dbl st0 = st0 from rfl, ← hl] at hA hB
  unfold parseP at hp hq
  rw [if_neg (by omega)] at hp hq
  cases hg : goP (lns t) 0 st0 with
  | error n =>
    rw [hg] at hp
    simp only [finP, Prod.mk.injEq] at hp
    obtain ⟨rfl, rfl, rfl⟩ := hp
    rcases hB n hg with h1 | ⟨⟨j, x, h1, h2, h3⟩, h4⟩
    · rw [show 2 * 0 = 0 from rfl] at h1
      rw [h1] at hq
      simp only [finP, Prod.mk.injEq] at hq
      obtain ⟨rfl, rfl, rfl⟩ := hq
      exact .inl ⟨rfl, rfl, rfl⟩
    · refine .inr ⟨rfl, ⟨j, x, by omega, h2, h3⟩, ?_⟩
      rw [show 2 * 0 = 0 from rfl] at h4
      cases hg2 : goP (lns u) 0 st0 with
      | error k =>
        rw [hg2] at hq
        simp only [finP, Prod.mk.injEq] at hq
        right; rw [← hq.2.1]; exact h4 k hg2
      | ok st =>
        left
        rw [hg2] at hq
        rintro rfl
        match st, hq with
        | [], hq => simp [finP] at hq
        | [b], hq => by_cases h5 : 4096 < b.many <;> simp [finP, h5] at hq
        | b :: c :: q, hq => simp [finP] at hq
  | ok st =>
    have h1 := hA st hg
    rw [show 2 * 0 = 0 from rfl] at h1
    rw [hg] at hp
    rw [h1] at hq
    left
    match st, hp, hq with
    | [], hp, hq => simp [finP, dbl] at hp hq; obtain ⟨rfl, rfl, rfl⟩ := hp; obtain ⟨rfl, rfl, rfl⟩ := hq; exact ⟨rfl, rfl, rfl⟩
    | [b], hp, hq =>
      simp only [finP, dbl, List.map_cons, List.map_nil] at hp hq
      split at hp
      · rename_i h4
        rw [if_pos h4] at hq
        cases hp; cases hq; exact ⟨rfl, rfl, rfl⟩
      · rename_i h4
        rw [if_neg h4] at hq
        cases hp; cases hq; exact ⟨rfl, rfl, rfl⟩
    | b :: c :: q, hp, hq =>
      simp only [finP, dbl, List.map_cons] at hp hq
      cases hp; cases hq; exact ⟨rfl, rfl, rfl⟩
end Go.Proofs.YtcjlbimmplejjaaGreatDoor.ScN
