import Derived.Test.YtcjlbimmplejjaaGreatDoorPathP
namespace Go.Proofs.YtcjlbimmplejjaaGreatDoor.PathQ
open Go.Proofs.YtcjlbimmplejjaaGreatDoor.PathP

def keptC (c : UInt8) : Bool := alnum c || [45, 46, 95, 126].contains c
def hexT : List UInt8 := [48, 49, 50, 51, 52, 53, 54, 55, 56, 57, 65, 66, 67, 68, 69, 70]
def hexU (n : Nat) : UInt8 := hexT.getD n 0
def encC (c : UInt8) : List UInt8 := if keptC c then [c] else [37, hexU (c.toNat / 16), hexU (c.toNat % 16)]
def encS (s : List UInt8) : List UInt8 := s.flatMap encC
def joinL (l : List (List UInt8)) : List UInt8 := l.flatMap fun s => 47 :: encS s
/-- The path of segments. -/
def join (l : List (List UInt8)) : Option (List UInt8) := if l ≠ [] ∧ l.all may = true ∧ (joinL l).length ≤ 512 then some (joinL l) else none

theorem all256 {p : UInt8 → Prop} (h : ∀ k : Fin 256, p (UInt8.ofNat k)) (c : UInt8) : p c := by
  have := h ⟨c.toNat, c.toNat_lt⟩
  simpa using this
theorem kept_ok : ∀ c, keptC c = true → okC [] c = true ∧ c ≠ 47 ∧ c ≠ 37 ∧ c ≠ 63 := by
  refine all256 ?_
  decide +kernel
theorem hexU_hex : ∀ n, n < 16 → isHex (hexU n) = true ∧ hexv (hexU n) = n := by decide
theorem encC_len (c : UInt8) : (encC c).length ≤ 3 := by unfold encC; split <;> simp
theorem encS_len (s : List UInt8) : (encS s).length ≤ 3 * s.length := by
  induction s with
  | nil => simp [encS]
  | cons c r ih => simp only [encS, List.flatMap_cons, List.length_append, List.length_cons] at *; have := encC_len c; omega

theorem byte_nib (c : UInt8) : isHex (hexU (c.toNat / 16)) = true ∧ isHex (hexU (c.toNat % 16)) = true ∧ UInt8.ofNat (hexv (hexU (c.toNat / 16)) * 16 + hexv (hexU (c.toNat % 16))) = c := by
  have hc := c.toNat_lt
  have h1 := hexU_hex (c.toNat / 16) (by omega)
  have h2 := hexU_hex (c.toNat % 16) (by omega)
  refine ⟨h1.1, h2.1, ?_⟩
  rw [h1.2, h2.2]
  have : c.toNat / 16 * 16 + c.toNat % 16 = c.toNat := by omega
  rw [this]; simp
theorem encC_plain (c : UInt8) (r : List UInt8) : plainB [] (encC c ++ r) = plainB [] r := by
  unfold encC
  split
  · rename_i h; exact plainB_ok _ _ _ (kept_ok c h).1
  · obtain ⟨h1, h2, _⟩ := byte_nib c
    exact plainB_pct [] _ _ _ (by decide) h1 h2
theorem encS_plain (s r : List UInt8) : plainB [] (encS s ++ r) = plainB [] r := by
  induction s with
  | nil => rfl
  | cons c q ih => rw [encS, List.flatMap_cons, List.append_assoc, encC_plain]; exact ih
theorem joinL_plain (l : List (List UInt8)) : plainB [] (joinL l) = true := by
  induction l with
  | nil => rfl
  | cons s r ih =>
    show plainB [] (47 :: encS s ++ joinL r) = true
    rw [List.cons_append, plainB_ok _ _ _ (by decide), encS_plain]
    exact ih
theorem encC_unpct (c : UInt8) (r : List UInt8) : unpct (encC c ++ r) = c :: unpct r := by
  unfold encC
  split
  · rename_i h; exact unpct_cons _ _ (kept_ok c h).2.2.1
  · obtain ⟨_, _, h3⟩ := byte_nib c
    show unpct (37 :: _ :: _ :: r) = _
    rw [unpct_pct, h3]
theorem encS_unpct (s : List UInt8) : unpct (encS s) = s := by
  have : ∀ r, unpct (encS s ++ r) = s ++ unpct r := by
    induction s with
    | nil => intro r; rfl
    | cons c q ih => intro r; rw [encS, List.flatMap_cons, List.append_assoc, encC_unpct]; exact congrArg _ (ih r)
  have h := this []
  rw [List.append_nil] at h
  rw [h]; simp [unpct]
theorem encC_no (c : UInt8) : ∀ x ∈ encC c, x ≠ 47 ∧ x ≠ 63 := by
  intro x hx
  unfold encC at hx
  split at hx
  · rename_i h
    simp at hx; subst hx
    exact ⟨(kept_ok _ h).2.1, (kept_ok _ h).2.2.2⟩
  · obtain ⟨h1, h2, _⟩ := byte_nib c
    simp only [List.mem_cons, List.not_mem_nil, or_false] at hx
    rcases hx with rfl | rfl | rfl
    · decide
    · exact ⟨(hex_ne _ h1).2.1, (hex_ne _ h1).1⟩
    · exact ⟨(hex_ne _ h2).2.1, (hex_ne _ h2).1⟩
theorem encS_no (s : List UInt8) : ∀ x ∈ encS s, x ≠ 47 ∧ x ≠ 63 := by
  intro x hx
  obtain ⟨c, _, hc⟩ := List.mem_flatMap.1 hx
  exact encC_no c x hc
theorem parts_app (x r y : List UInt8) (ys : List (List UInt8)) (hx : ∀ a ∈ x, a ≠ 47) (hr : parts r = y :: ys) : parts (x ++ r) = (x ++ y) :: ys := by
  induction x with
  | nil => exact hr
  | cons c q ih => exact parts_cons _ _ _ _ (hx c (by simp)) (ih fun a ha => hx a (by simp [ha]))
theorem parts_one (x : List UInt8) (hx : ∀ a ∈ x, a ≠ 47) : parts x = [x] := by
  have := parts_app x [] [] [] hx rfl
  simpa using this
theorem parts_add (x r : List UInt8) : parts (x ++ 47 :: r) = parts x ++ parts r := by
  induction x with
  | nil => rw [List.nil_append, parts_slash]; rfl
  | cons c q ih =>
    by_cases h : c = 47
    · subst h
      rw [List.cons_append, parts_slash, parts_slash, ih]; rfl
    · obtain ⟨y, ys, hy⟩ := parts_ne q
      rw [List.cons_append, parts_cons c q y ys h hy, parts_cons c (q ++ 47 :: r) y (ys ++ parts r) h (by rw [ih, hy]; rfl)]
      rfl
theorem joinL_parts : ∀ (s : List UInt8) (l : List (List UInt8)), parts ((joinL (s :: l)).drop 1) = (s :: l).map encS
  | s, [] => by
    show parts (encS s ++ []) = _
    rw [List.append_nil, parts_one _ fun a h => (encS_no s a h).1]; rfl
  | s, t :: l => by
    show parts (encS s ++ (47 :: (encS t ++ joinL l))) = _
    rw [parts_add, parts_one _ fun a h => (encS_no s a h).1]
    have := joinL_parts t l
    show [encS s] ++ parts ((joinL (t :: l)).drop 1) = _
    rw [this]; rfl
theorem joinL_no (l : List (List UInt8)) : ∀ x ∈ joinL l, x ≠ 63 := by
  intro x hx
  obtain ⟨s, _, hs⟩ := List.mem_flatMap.1 hx
  rcases List.mem_cons.1 hs with rfl | h
  · decide
  · exact (encS_no s x h).2
theorem takeWhile_all (s : List UInt8) (h : ∀ x ∈ s, x ≠ 63) : cutQ s = (s, []) := by
  unfold cutQ
  have h1 : s.takeWhile (· != 63) = s := by
    induction s with
    | nil => rfl
    | cons c r ih =>
      have hc : c ≠ 63 := h c (by simp)
      simp only [List.takeWhile_cons, bne_iff_ne, ne_eq, hc, not_false_eq_true, if_true]
      rw [ih fun x hx => h x (by simp [hx])]
  have h2 := List.takeWhile_append_dropWhile (p := (· != 63)) (l := s)
  rw [h1] at h2
  have h3 : s.dropWhile (· != 63) = [] := by simpa using h2
  rw [h1, h3]; rfl
theorem plain_no63 : ∀ (n : Nat) (s : List UInt8), s.length ≤ n → plainB [] s = true → ∀ x ∈ s, x ≠ 63
  | _, [], _, _, x, hx => by cases hx
  | 0, _ :: _, h, _, _, _ => by simp at h
  | n + 1, c :: r, hn, h, x, hx => by
    cases hok : okC [] c
    · have hw := plainB_wfp _ _ (Nat.le_refl _) h
      by_cases h37 : c = 37
      · subst h37
        obtain ⟨a, b, q, rfl, ha, hb, _⟩ := wfp_pct r hw
        rw [plainB_pct [] a b q (by decide) ha hb] at h
        simp only [List.mem_cons] at hx
        rcases hx with rfl | rfl | rfl | hx
        · decide
        · exact (hex_ne _ ha).1
        · exact (hex_ne _ hb).1
        · exact plain_no63 n q (by simp at hn; omega) h x hx
      · rw [plainB_no [] c r hok (.inl h37)] at h; cases h
    · rw [plainB_ok _ _ _ hok] at h
      rcases List.mem_cons.1 hx with rfl | hx
      · exact (okC_ne _ hok).2
      · exact plain_no63 n r (by simpa using hn) h x hx
/-- A path without a query, in short. -/
theorem target_iff (s : List UInt8) : (∃ q, target s = some (s, q)) ↔ (plainB [] s = true ∧ s.head? = some 47 ∧ s.length ≤ 512) := by
  constructor
  · rintro ⟨q, hq⟩
    obtain ⟨h1, h2, h3, _⟩ := target_wfp hq
    exact ⟨h1, h2, h3⟩
  · rintro ⟨h1, h2, h3⟩
    refine ⟨[], ?_⟩
    unfold target
    rw [takeWhile_all s (plain_no63 _ s (Nat.le_refl _) h1)]
    exact if_pos ⟨h3, h2, h1, rfl⟩
theorem target_plain {s : List UInt8} (h : plainB [] s = true ∧ s.head? = some 47 ∧ s.length ≤ 512) : target s = some (s, []) := by
  obtain ⟨q, hq⟩ := (target_iff s).2 h
  rw [hq, (target_wfp hq).2.2.2]

theorem join_some {l : List (List UInt8)} {p : List UInt8} (h : join l = some p) : l ≠ [] ∧ l.all may = true ∧ p.length ≤ 512 ∧ p = joinL l := by
  unfold join at h
  split at h
  · rename_i hc
    cases h
    exact ⟨hc.1, hc.2.1, hc.2.2, rfl⟩
  · cases h
theorem joinL_head {l : List (List UInt8)} (h : l ≠ []) : (joinL l).head? = some 47 := by
  cases l with
  | nil => exact absurd rfl h
  | cons s r => rfl
/-- What was joined is split into the same segments. -/
theorem segs_join {l : List (List UInt8)} {p : List UInt8} (h : join l = some p) : segs p = some l ∧ target p = some (p, []) := by
  obtain ⟨h1, h2, h3, rfl⟩ := join_some h
  have ht : plainB [] (joinL l) = true ∧ (joinL l).head? = some 47 ∧ (joinL l).length ≤ 512 := ⟨joinL_plain l, joinL_head h1, h3⟩
  refine ⟨?_, target_plain ht⟩
  unfold segs
  rw [if_pos ((isPath_iff _).2 ((target_iff _).2 ht))]
  have hp : (parts ((joinL l).drop 1)).map unpct = l := by
    cases l with
    | nil => exact absurd rfl h1
    | cons s r =>
      rw [joinL_parts, List.map_map]
      have : (unpct ∘ encS) = id := funext fun x => encS_unpct x
      rw [this, List.map_id]
  rw [hp, if_pos h2]
theorem segs_some {s : List UInt8} {m : List (List UInt8)} (h : segs s = some m) : (plainB [] s = true ∧ s.head? = some 47 ∧ s.length ≤ 512) ∧ m = (parts (s.drop 1)).map unpct ∧ m.all may = true := by
  unfold segs at h
  split at h
  · rename_i hc
    split at h
    · rename_i hm
      cases h
      exact ⟨(target_iff s).1 ((isPath_iff s).1 hc), rfl, hm⟩
    · cases h
  · cases h
theorem segs_mk {s : List UInt8} (h : plainB [] s = true ∧ s.head? = some 47 ∧ s.length ≤ 512) (hm : ((parts (s.drop 1)).map unpct).all may = true) : segs s = some ((parts (s.drop 1)).map unpct) := by
  unfold segs
  rw [if_pos ((isPath_iff _).2 ((target_iff s).2 h)), if_pos hm]
theorem unpct_len : ∀ (n : Nat) (s : List UInt8), s.length ≤ n → (unpct s).length ≤ s.length
  | _, [], _ => by simp [unpct]
  | 0, _ :: _, h => by simp at h
  | n + 1, c :: r, hn => by
    by_cases h : c = 37
    · subst h
      match r with
      | [] => simp [unpct]
      | [d] => simp [unpct]
      | a :: b :: q =>
        rw [unpct_pct]
        have := unpct_len n q (by simp at hn; omega)
        simp; omega
    · rw [unpct_cons c r h]
      have := unpct_len n r (by simpa using hn)
      simp; omega
def tot : List (List UInt8) → Nat
  | [] => 0
  | x :: xs => 1 + x.length + tot xs
theorem parts_tot (s : List UInt8) : tot (parts s) = s.length + 1 := by
  induction s with
  | nil => rfl
  | cons c r ih =>
    by_cases h : c = 47
    · subst h; rw [parts_slash]; simp only [tot, ih, List.length_cons, List.length_nil]; omega
    · obtain ⟨x, xs, hx⟩ := parts_ne r
      rw [parts_cons c r x xs h hx]
      rw [hx] at ih
      simp only [tot, List.length_cons] at *
      omega
theorem joinL_tot (l : List (List UInt8)) : (joinL (l.map unpct)).length ≤ 3 * tot l := by
  induction l with
  | nil => simp [joinL, tot]
  | cons x xs ih =>
    have h1 := encS_len (unpct x)
    have h2 := unpct_len _ x (Nat.le_refl _)
    simp only [joinL, List.map_cons, List.flatMap_cons, List.length_append, List.length_cons, tot] at *
    omega
/-- Segments of a short path can be joined. -/
theorem join_long {s : List UInt8} {m : List (List UInt8)} (h : segs s = some m) (hj : join m = none) : 170 < s.length := by
  obtain ⟨⟨h1, h2, h3⟩, rfl, h5⟩ := segs_some h
  by_cases hl : 170 < s.length
  · exact hl
  · exfalso
    unfold join at hj
    rw [if_pos] at hj
    · cases hj
    · obtain ⟨x, xs, hx⟩ := parts_ne (s.drop 1)
      refine ⟨by rw [hx]; simp, h5, ?_⟩
      have h6 := joinL_tot (parts (s.drop 1))
      rw [parts_tot] at h6
      have : (s.drop 1).length + 1 = s.length := by
        cases s with
        | nil => cases h2
        | cons c r => simp
      omega
/-- As many segments as slashes. -/
theorem parts_count (s : List UInt8) : (parts s).length = s.count 47 + 1 := by
  induction s with
  | nil => rfl
  | cons c r ih =>
    by_cases h : c = 47
    · subst h; rw [parts_slash]; simp [ih]
    · obtain ⟨x, xs, hx⟩ := parts_ne r
      rw [parts_cons c r x xs h hx]
      rw [hx] at ih
      rw [List.count_cons_of_ne h]
      simpa using ih
theorem segs_count {s : List UInt8} {m : List (List UInt8)} (h : segs s = some m) : m.length = s.count 47 := by
  obtain ⟨⟨h1, h2, h3⟩, rfl, h5⟩ := segs_some h
  cases s with
  | nil => cases h2
  | cons c r =>
    simp at h2; subst h2
    simp [parts_count]
theorem plainB_app : ∀ (n : Nat) (s t : List UInt8), s.length ≤ n → plainB [] s = true → plainB [] (s ++ t) = plainB [] t
  | _, [], _, _, _ => rfl
  | 0, _ :: _, _, h, _ => by simp at h
  | n + 1, c :: r, t, hn, h => by
    cases hok : okC [] c
    · have hw := plainB_wfp _ _ (Nat.le_refl _) h
      by_cases h37 : c = 37
      · subst h37
        obtain ⟨a, b, q, rfl, ha, hb, _⟩ := wfp_pct r hw
        rw [plainB_pct [] a b q (by decide) ha hb] at h
        show plainB [] (37 :: a :: b :: (q ++ t)) = _
        rw [plainB_pct [] a b _ (by decide) ha hb]
        exact plainB_app n q t (by simp at hn; omega) h
      · rw [plainB_no [] c r hok (.inl h37)] at h; cases h
    · rw [plainB_ok _ _ _ hok] at h
      rw [List.cons_append, plainB_ok _ _ _ hok]
      exact plainB_app n r t (by simpa using hn) h
/-- Two paths, one behind the other. -/
theorem segs_app {s t : List UInt8} {a b : List (List UInt8)} (hs : segs s = some a) (ht : segs t = some b) (hl : (s ++ t).length ≤ 512) : segs (s ++ t) = some (a ++ b) := by
  obtain ⟨⟨h1, h2, h3⟩, rfl, h5⟩ := segs_some hs
  obtain ⟨⟨k1, k2, k3⟩, rfl, k5⟩ := segs_some ht
  cases s with
  | nil => cases h2
  | cons c r =>
    cases t with
    | nil => cases k2
    | cons d q =>
      simp at k2; subst k2
      simp at h2; subst h2
      have hd : (47 :: r ++ 47 :: q).drop 1 = r ++ 47 :: q := rfl
      have hp : (parts ((47 :: r ++ 47 :: q).drop 1)).map unpct = (parts r).map unpct ++ (parts q).map unpct := by rw [hd, parts_add, List.map_append]
      have := segs_mk (s := 47 :: r ++ 47 :: q) ⟨by rw [plainB_app _ _ _ (Nat.le_refl _) h1]; exact k1, rfl, hl⟩ (by
        rw [hp, List.all_append]
        simp only [List.drop_succ_cons, List.drop_zero] at h5 k5
        rw [h5, k5]; rfl)
      rw [this, hp]
      rfl

end Go.Proofs.YtcjlbimmplejjaaGreatDoor.PathQ
