import Derived.Walk
namespace Go.Proofs.Ythbfkconaofigaa.B64Law

def tab : List UInt8 := [65, 66, 67, 68, 69, 70, 71, 72, 73, 74, 75, 76, 77, 78, 79, 80, 81, 82, 83, 84, 85, 86, 87, 88, 89, 90, 97, 98, 99, 100, 101, 102, 103, 104, 105, 106, 107, 108, 109, 110, 111, 112, 113, 114, 115, 116, 117, 118, 119, 120, 121, 122, 48, 49, 50, 51, 52, 53, 54, 55, 56, 57, 43, 47]
/-- The letter of a number. -/
def let_ (n : Nat) : UInt8 := tab.getD n 0
/-- The number of a letter. -/
def val (c : UInt8) : Option Nat := tab.findIdx? (· == c)

theorem val_let : ∀ n, n < 64 → val (let_ n) = some n := by decide
theorem all_bytes {p : UInt8 → Prop} (h : ∀ k : Fin 256, p (UInt8.ofNat k)) (c : UInt8) : p c := by
  have := h ⟨c.toNat, c.toNat_lt⟩
  simpa using this
theorem let_val' : ∀ k : Fin 256, (match val (UInt8.ofNat k) with | none => true | some n => decide (let_ n = UInt8.ofNat k ∧ n < 64)) = true := by decide +kernel
theorem let_val (c : UInt8) (n : Nat) (h : val c = some n) : let_ n = c ∧ n < 64 := by
  have := all_bytes (p := fun c => (match val c with | none => true | some n => decide (let_ n = c ∧ n < 64)) = true) let_val' c
  rw [h] at this
  simpa using this
theorem let_ne_eq : ∀ n, n < 64 → let_ n ≠ 61 := by decide

def enc : List UInt8 → List UInt8
  | [] => []
  | [a] => [let_ (a.toNat / 4), let_ (a.toNat % 4 * 16), 61, 61]
  | [a, b] => [let_ (a.toNat / 4), let_ (a.toNat % 4 * 16 + b.toNat / 16), let_ (b.toNat % 16 * 4), 61]
  | a :: b :: c :: r => [let_ (a.toNat / 4), let_ (a.toNat % 4 * 16 + b.toNat / 16), let_ (b.toNat % 16 * 4 + c.toNat / 64), let_ (c.toNat % 64)] ++ enc r

theorem enc_append : ∀ (s t : List UInt8), s.length % 3 = 0 → enc (s ++ t) = enc s ++ enc t
  | [], t, _ => rfl
  | [a], t, h => by simp at h
  | [a, b], t, h => by simp at h
  | a :: b :: c :: r, t, h => by
    have ih := enc_append r t (by simp at h; omega)
    show _ ++ enc (r ++ t) = (_ ++ enc r) ++ enc t
    rw [ih, List.append_assoc]
theorem enc_length : ∀ (s : List UInt8), (enc s).length = (s.length + 2) / 3 * 4
  | [] => rfl
  | [a] => by simp [enc]
  | [a, b] => by simp [enc]
  | a :: b :: c :: r => by
    have ih := enc_length r
    show (_ ++ enc r).length = _
    rw [List.length_append, ih]
    simp only [List.length_cons, List.length_nil]
    omega

/-- The bytes of a list of letters' numbers: two, three or four of them; none where the bits behind are not noughts. -/
def group (x : List Nat) : Option (List UInt8) :=
  match x with
  | [a, b] => if b % 16 = 0 then some [UInt8.ofNat (a * 4 + b / 16)] else none
  | [a, b, c] => if c % 4 = 0 then some [UInt8.ofNat (a * 4 + b / 16), UInt8.ofNat (b % 16 * 16 + c / 4)] else none
  | [a, b, c, d] => some [UInt8.ofNat (a * 4 + b / 16), UInt8.ofNat (b % 16 * 16 + c / 4), UInt8.ofNat (c % 4 * 64 + d)]
  | _ => none

theorem group3 (a b c : UInt8) : group [a.toNat / 4, a.toNat % 4 * 16 + b.toNat / 16, b.toNat % 16 * 4 + c.toNat / 64, c.toNat % 64] = some [a, b, c] := by
  have ha := a.toNat_lt; have hb := b.toNat_lt; have hc := c.toNat_lt
  simp only [group]
  rw [show a.toNat / 4 * 4 + (a.toNat % 4 * 16 + b.toNat / 16) / 16 = a.toNat from by omega,
    show (a.toNat % 4 * 16 + b.toNat / 16) % 16 * 16 + (b.toNat % 16 * 4 + c.toNat / 64) / 4 = b.toNat from by omega,
    show (b.toNat % 16 * 4 + c.toNat / 64) % 4 * 64 + c.toNat % 64 = c.toNat from by omega]
  simp
theorem group2 (a b : UInt8) : group [a.toNat / 4, a.toNat % 4 * 16 + b.toNat / 16, b.toNat % 16 * 4] = some [a, b] := by
  have ha := a.toNat_lt; have hb := b.toNat_lt
  simp only [group]
  rw [if_pos (by omega), show a.toNat / 4 * 4 + (a.toNat % 4 * 16 + b.toNat / 16) / 16 = a.toNat from by omega,
    show (a.toNat % 4 * 16 + b.toNat / 16) % 16 * 16 + (b.toNat % 16 * 4) / 4 = b.toNat from by omega]
  simp
theorem group1 (a : UInt8) : group [a.toNat / 4, a.toNat % 4 * 16] = some [a] := by
  have ha := a.toNat_lt
  simp only [group]
  rw [if_pos (by omega), show a.toNat / 4 * 4 + (a.toNat % 4 * 16) / 16 = a.toNat from by omega]
  simp

def nums : List UInt8 → Option (List Nat)
  | [] => some []
  | c :: r => match val c, nums r with
    | some n, some l => some (n :: l)
    | _, _ => none
def dec1 (g : List UInt8) : Option (List UInt8) := match nums g with
  | some l => group l
  | none => none
/-- Strike up to two signs '=' from the end of four. -/
def trim4 (a b c d : UInt8) : List UInt8 := if d = 61 then (if c = 61 then [a, b] else [a, b, c]) else [a, b, c, d]
def dec : List UInt8 → Option (List UInt8)
  | [] => some []
  | a :: b :: c :: d :: r => if r = [] then dec1 (trim4 a b c d) else match dec1 [a, b, c, d], dec r with
    | some x, some y => some (x ++ y)
    | _, _ => none
  | _ => none

theorem of_toNat (n : Nat) (h : n < 256) : (UInt8.ofNat n).toNat = n := by simp; omega

theorem enc_nil_iff (u : List UInt8) : enc u = [] ↔ u = [] := by
  constructor
  · intro h
    have := congrArg List.length h
    rw [enc_length] at this
    simp at this
    cases u with
    | nil => rfl
    | cons x xs => simp at this; omega
  · rintro rfl; rfl

theorem dec_enc : ∀ (u : List UInt8), dec (enc u) = some u
  | [] => rfl
  | [a] => by
    have ha := a.toNat_lt
    have g := group1 a
    simp [enc, dec, trim4, dec1, nums, val_let _ (show a.toNat / 4 < 64 by omega), val_let _ (show a.toNat % 4 * 16 < 64 by omega), g]
  | [a, b] => by
    have ha := a.toNat_lt; have hb := b.toNat_lt
    have g := group2 a b
    have h61 := let_ne_eq (b.toNat % 16 * 4) (by omega)
    simp [enc, dec, trim4, dec1, nums, h61, val_let _ (show a.toNat / 4 < 64 by omega), val_let _ (show a.toNat % 4 * 16 + b.toNat / 16 < 64 by omega), val_let _ (show b.toNat % 16 * 4 < 64 by omega), g]
  | a :: b :: c :: r => by
    have ha := a.toNat_lt; have hb := b.toNat_lt; have hc := c.toNat_lt
    have ih := dec_enc r
    have g := group3 a b c
    have h61 := let_ne_eq (c.toNat % 64) (by omega)
    have v0 := val_let _ (show a.toNat / 4 < 64 by omega)
    have v1 := val_let _ (show a.toNat % 4 * 16 + b.toNat / 16 < 64 by omega)
    have v2 := val_let _ (show b.toNat % 16 * 4 + c.toNat / 64 < 64 by omega)
    have v3 := val_let _ (show c.toNat % 64 < 64 by omega)
    have hd1 : dec1 [let_ (a.toNat / 4), let_ (a.toNat % 4 * 16 + b.toNat / 16), let_ (b.toNat % 16 * 4 + c.toNat / 64), let_ (c.toNat % 64)] = some [a, b, c] := by
      simp [dec1, nums, v0, v1, v2, v3, g]
    show dec (_ :: _ :: _ :: _ :: enc r) = _
    unfold dec
    by_cases hr : enc r = []
    · rw [if_pos hr, (enc_nil_iff r).1 hr]
      unfold trim4
      rw [if_neg h61, hd1]
    · rw [if_neg hr, hd1, ih]
      rfl

theorem group_len {l : List Nat} {u : List UInt8} (h : group l = some u) : (∃ a b, l = [a, b]) ∨ (∃ a b c, l = [a, b, c]) ∨ (∃ a b c d, l = [a, b, c, d]) := by
  match l, h with
  | [a, b], _ => exact .inl ⟨a, b, rfl⟩
  | [a, b, c], _ => exact .inr (.inl ⟨a, b, c, rfl⟩)
  | [a, b, c, d], _ => exact .inr (.inr ⟨a, b, c, d, rfl⟩)
  | [], h => simp [group] at h
  | [_], h => simp [group] at h
  | _ :: _ :: _ :: _ :: _ :: _, h => simp [group] at h

theorem nums_cons {c : UInt8} {r : List UInt8} {l : List Nat} (h : nums (c :: r) = some l) : ∃ n k, l = n :: k ∧ let_ n = c ∧ n < 64 ∧ nums r = some k := by
  unfold nums at h
  split at h
  · rename_i n k hv hn
    cases h
    obtain ⟨h1, h2⟩ := let_val c n hv
    exact ⟨n, k, rfl, h1, h2, hn⟩
  · cases h

theorem dec1_four {a b c d : UInt8} {u : List UInt8} (h : dec1 [a, b, c, d] = some u) : ∃ x y z, u = [x, y, z] ∧ ∀ r, enc (x :: y :: z :: r) = [a, b, c, d] ++ enc r := by
  unfold dec1 at h
  split at h
  · rename_i l hl
    obtain ⟨n0, k0, rfl, e0, l0, h1⟩ := nums_cons hl
    obtain ⟨n1, k1, rfl, e1, l1, h2⟩ := nums_cons h1
    obtain ⟨n2, k2, rfl, e2, l2, h3⟩ := nums_cons h2
    obtain ⟨n3, k3, rfl, e3, l3, h4⟩ := nums_cons h3
    cases h4
    simp only [group] at h
    cases h
    refine ⟨_, _, _, rfl, fun r => ?_⟩
    subst e0; subst e1; subst e2; subst e3
    show [_, _, _, _] ++ enc r = _
    rw [of_toNat _ (by omega), of_toNat _ (by omega), of_toNat _ (by omega)]
    rw [show (n0 * 4 + n1 / 16) / 4 = n0 from by omega, show (n0 * 4 + n1 / 16) % 4 * 16 + (n1 % 16 * 16 + n2 / 4) / 16 = n1 from by omega,
      show (n1 % 16 * 16 + n2 / 4) % 16 * 4 + (n2 % 4 * 64 + n3) / 64 = n2 from by omega, show (n2 % 4 * 64 + n3) % 64 = n3 from by omega]
  · cases h
theorem dec1_three {a b c : UInt8} {u : List UInt8} (h : dec1 [a, b, c] = some u) : enc u = [a, b, c, 61] := by
  unfold dec1 at h
  split at h
  · rename_i l hl
    obtain ⟨n0, k0, rfl, e0, l0, h1⟩ := nums_cons hl
    obtain ⟨n1, k1, rfl, e1, l1, h2⟩ := nums_cons h1
    obtain ⟨n2, k2, rfl, e2, l2, h3⟩ := nums_cons h2
    cases h3
    simp only [group] at h
    split at h
    · cases h
      subst e0; subst e1; subst e2
      show [_, _, _, _] = _
      rw [of_toNat _ (by omega), of_toNat _ (by omega)]
      rw [show (n0 * 4 + n1 / 16) / 4 = n0 from by omega, show (n0 * 4 + n1 / 16) % 4 * 16 + (n1 % 16 * 16 + n2 / 4) / 16 = n1 from by omega,
        show (n1 % 16 * 16 + n2 / 4) % 16 * 4 = n2 from by omega]
    · cases h
  · cases h
theorem dec1_two {a b : UInt8} {u : List UInt8} (h : dec1 [a, b] = some u) : enc u = [a, b, 61, 61] := by
  unfold dec1 at h
  split at h
  · rename_i l hl
    obtain ⟨n0, k0, rfl, e0, l0, h1⟩ := nums_cons hl
    obtain ⟨n1, k1, rfl, e1, l1, h2⟩ := nums_cons h1
    cases h2
    simp only [group] at h
    split at h
    · cases h
      subst e0; subst e1
      show [_, _, _, _] = _
      rw [of_toNat _ (by omega)]
      rw [show (n0 * 4 + n1 / 16) / 4 = n0 from by omega, show (n0 * 4 + n1 / 16) % 4 * 16 = n1 from by omega]
    · cases h
  · cases h

theorem enc_dec : ∀ (t u : List UInt8), dec t = some u → enc u = t
  | [], u, h => by cases h; rfl
  | [_], u, h => by cases h
  | [_, _], u, h => by cases h
  | [_, _, _], u, h => by cases h
  | a :: b :: c :: d :: r, u, h => by
    unfold dec at h
    split at h
    · rename_i hr
      subst hr
      unfold trim4 at h
      split at h
      · rename_i hd
        split at h
        · rename_i hc
          rw [hd, hc]; exact dec1_two h
        · rw [hd]; exact dec1_three h
      · obtain ⟨x, y, z, rfl, he⟩ := dec1_four h
        exact he []
    · split at h
      · rename_i x y hx hy
        cases h
        have ih := enc_dec r y hy
        obtain ⟨x0, x1, x2, rfl, he⟩ := dec1_four hx
        have := he y
        rw [ih] at this
        exact this
      · cases h

end Go.Proofs.Ythbfkconaofigaa.B64Law
