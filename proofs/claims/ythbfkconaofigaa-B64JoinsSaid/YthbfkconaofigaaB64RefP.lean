import Derived.Test.YthbfkconaofigaaB64Law
namespace Go.Proofs.Ythbfkconaofigaa.B64RefP
open Go.Proofs.Ythbfkconaofigaa.B64Law

/-- A byte's bits, the highest first. -/
def bits8 (c : UInt8) : List Nat := [c.toNat / 128 % 2, c.toNat / 64 % 2, c.toNat / 32 % 2, c.toNat / 16 % 2, c.toNat / 8 % 2, c.toNat / 4 % 2, c.toNat / 2 % 2, c.toNat % 2]
def bits6 (n : Nat) : List Nat := [n / 32 % 2, n / 16 % 2, n / 8 % 2, n / 4 % 2, n / 2 % 2, n % 2]
def bitsOf (s : List UInt8) : List Nat := s.flatMap bits8
def numB (l : List Nat) : Nat := l.foldl (fun a b => 2 * a + b) 0
def grp6 : List Nat → List Nat
  | a :: b :: c :: d :: e :: f :: r => numB [a, b, c, d, e, f] :: grp6 r
  | _ => []
def grp8 : List Nat → List Nat
  | a :: b :: c :: d :: e :: f :: g :: h :: r => numB [a, b, c, d, e, f, g, h] :: grp8 r
  | _ => []
def pad6 (l : List Nat) : List Nat := l ++ List.replicate ((6 - l.length % 6) % 6) 0
def pad4 (l : List UInt8) : List UInt8 := l ++ List.replicate ((4 - l.length % 4) % 4) 61
def refEnc (s : List UInt8) : List UInt8 := pad4 ((grp6 (pad6 (bitsOf s))).map let_)

theorem bitsOf_length (s : List UInt8) : (bitsOf s).length = 8 * s.length := by
  induction s with
  | nil => rfl
  | cons c r ih => simp only [bitsOf, List.flatMap_cons, List.length_append] at *; rw [ih]; simp [bits8]; omega
theorem pad6_add (x l : List Nat) (h : x.length % 6 = 0) : pad6 (x ++ l) = x ++ pad6 l := by
  unfold pad6
  rw [List.length_append, List.append_assoc, show (x.length + l.length) % 6 = l.length % 6 from by omega]
theorem pad4_add (x l : List UInt8) (h : x.length % 4 = 0) : pad4 (x ++ l) = x ++ pad4 l := by
  unfold pad4
  rw [List.length_append, List.append_assoc, show (x.length + l.length) % 4 = l.length % 4 from by omega]
theorem num6 (a b c d e f : Nat) : numB [a, b, c, d, e, f] = 32 * a + 16 * b + 8 * c + 4 * d + 2 * e + f := by simp [numB]; omega
theorem num8 (a b c d e f g h : Nat) : numB [a, b, c, d, e, f, g, h] = 128 * a + 64 * b + 32 * c + 16 * d + 8 * e + 4 * f + 2 * g + h := by simp [numB]; omega

theorem refEnc_three (a b c : UInt8) (r : List UInt8) : refEnc (a :: b :: c :: r) = [let_ (a.toNat / 4), let_ (a.toNat % 4 * 16 + b.toNat / 16), let_ (b.toNat % 16 * 4 + c.toNat / 64), let_ (c.toNat % 64)] ++ refEnc r := by
  have ha := a.toNat_lt; have hb := b.toNat_lt; have hc := c.toNat_lt
  unfold refEnc
  have e1 : bitsOf (a :: b :: c :: r) = (bits8 a ++ bits8 b ++ bits8 c) ++ bitsOf r := by simp [bitsOf, List.append_assoc]
  rw [e1, pad6_add _ _ (by simp [bits8])]
  have e2 : ∀ q, grp6 ((bits8 a ++ bits8 b ++ bits8 c) ++ q) = [a.toNat / 4, a.toNat % 4 * 16 + b.toNat / 16, b.toNat % 16 * 4 + c.toNat / 64, c.toNat % 64] ++ grp6 q := by
    intro q
    show numB _ :: numB _ :: numB _ :: numB _ :: grp6 q = _
    rw [num6, num6, num6, num6]
    simp only [List.cons_append, List.nil_append, List.cons.injEq, and_true]
    refine ⟨?_, ?_, ?_, ?_⟩ <;> omega
  rw [e2, List.map_append, pad4_add _ _ (by simp)]
  rfl
theorem refEnc_eq : ∀ (s : List UInt8), refEnc s = enc s
  | [] => rfl
  | [a] => by
    have ha := a.toNat_lt
    have e1 : pad6 (bitsOf [a]) = bits8 a ++ [0, 0, 0, 0] := by simp [pad6, bitsOf, bits8]
    unfold refEnc
    rw [e1]
    show pad4 [let_ (numB _), let_ (numB _)] = [let_ (a.toNat / 4), let_ (a.toNat % 4 * 16), 61, 61]
    rw [num6, num6]
    show [_, _, 61, 61] = _
    simp only [List.cons.injEq, and_true]
    refine ⟨?_, ?_⟩ <;> congr 1 <;> omega
  | [a, b] => by
    have ha := a.toNat_lt; have hb := b.toNat_lt
    have e1 : pad6 (bitsOf [a, b]) = bits8 a ++ bits8 b ++ [0, 0] := by simp [pad6, bitsOf, bits8]
    unfold refEnc
    rw [e1]
    show pad4 [let_ (numB _), let_ (numB _), let_ (numB _)] = [let_ (a.toNat / 4), let_ (a.toNat % 4 * 16 + b.toNat / 16), let_ (b.toNat % 16 * 4), 61]
    rw [num6, num6, num6]
    show [_, _, _, 61] = _
    simp only [List.cons.injEq, and_true]
    refine ⟨?_, ?_, ?_⟩ <;> congr 1 <;> omega
  | a :: b :: c :: r => by
    rw [refEnc_three, refEnc_eq r]
    rfl

/-- Without the signs '=' at the end. -/
def strip (t : List UInt8) : List UInt8 := (t.reverse.dropWhile (· == 61)).reverse
theorem strip_snoc (t : List UInt8) (c : UInt8) : strip (t ++ [c]) = if c = 61 then strip t else t ++ [c] := by
  unfold strip
  by_cases h : c = 61
  · simp [h]
  · simp [h]
theorem strip_add (x y : List UInt8) (hx : ∀ a ∈ x, a ≠ 61) : strip (x ++ y) = x ++ strip y := by
  induction hn : y.length generalizing y with
  | zero =>
    obtain rfl := List.eq_nil_of_length_eq_zero hn
    rw [List.append_nil]
    rcases List.eq_nil_or_concat x with rfl | ⟨z, c, rfl⟩
    · rfl
    · rw [List.concat_eq_append, strip_snoc, if_neg (hx c (by simp))]; simp [strip]
  | succ n ih =>
    rcases List.eq_nil_or_concat y with rfl | ⟨z, c, rfl⟩
    · cases hn
    · rw [List.concat_eq_append, ← List.append_assoc, strip_snoc, strip_snoc]
      by_cases h : c = 61
      · rw [if_pos h, if_pos h]; exact ih z (by simpa using hn)
      · rw [if_neg h, if_neg h, List.append_assoc]
/-- The letters' bits, or that one is none. -/
def bitsL : List UInt8 → Option (List Nat)
  | [] => some []
  | c :: r => match val c, bitsL r with
    | some n, some l => some (bits6 n ++ l)
    | _, _ => none
theorem let_ne (n : Nat) (h : n < 64) : let_ n ≠ 61 := let_ne_eq n h
theorem bitsL_let (n : Nat) (h : n < 64) (r : List UInt8) (l : List Nat) (hr : bitsL r = some l) : bitsL (let_ n :: r) = some (bits6 n ++ l) := by
  unfold bitsL; rw [val_let n h, hr]
theorem grp8_three (n0 n1 n2 n3 : Nat) (q : List Nat) : grp8 (bits6 n0 ++ (bits6 n1 ++ (bits6 n2 ++ (bits6 n3 ++ q)))) =
    [(n0 % 64) * 4 + n1 / 16 % 4, n1 % 16 * 16 + n2 / 4 % 16, n2 % 4 * 64 + n3 % 64] ++ grp8 q := by
  show numB _ :: numB _ :: numB _ :: grp8 q = _
  rw [num8, num8, num8]
  simp only [List.cons_append, List.nil_append, List.cons.injEq, and_true]
  refine ⟨?_, ?_, ?_⟩ <;> omega
/-- What the plain decoder makes of right letters. -/
theorem refDec_enc : ∀ (u : List UInt8), ∃ l, bitsL (strip (enc u)) = some l ∧ (grp8 l).map UInt8.ofNat = u
  | [] => ⟨[], rfl, rfl⟩
  | [a] => by
    have ha := a.toNat_lt
    have hs : strip (enc [a]) = [let_ (a.toNat / 4), let_ (a.toNat % 4 * 16)] := by
      show strip ([let_ (a.toNat / 4), let_ (a.toNat % 4 * 16)] ++ [61, 61]) = _
      rw [strip_add _ _ (by simp; exact ⟨let_ne _ (by omega), let_ne _ (by omega)⟩)]; rfl
    refine ⟨_, by rw [hs]; exact bitsL_let _ (by omega) _ _ (bitsL_let _ (by omega) _ _ rfl), ?_⟩
    show [UInt8.ofNat (numB _)] = _
    rw [num8]
    simp only [List.cons.injEq, and_true]
    have : ∀ x, x = a.toNat → UInt8.ofNat x = a := by rintro x rfl; simp
    exact this _ (by omega)
  | [a, b] => by
    have ha := a.toNat_lt; have hb := b.toNat_lt
    have hs : strip (enc [a, b]) = [let_ (a.toNat / 4), let_ (a.toNat % 4 * 16 + b.toNat / 16), let_ (b.toNat % 16 * 4)] := by
      show strip ([let_ (a.toNat / 4), let_ (a.toNat % 4 * 16 + b.toNat / 16), let_ (b.toNat % 16 * 4)] ++ [61]) = _
      rw [strip_add _ _ (by simp; exact ⟨let_ne _ (by omega), let_ne _ (by omega), let_ne _ (by omega)⟩)]; rfl
    refine ⟨_, by rw [hs]; exact bitsL_let _ (by omega) _ _ (bitsL_let _ (by omega) _ _ (bitsL_let _ (by omega) _ _ rfl)), ?_⟩
    show [UInt8.ofNat (numB _), UInt8.ofNat (numB _)] = _
    rw [num8, num8]
    simp only [List.cons.injEq, and_true]
    have : ∀ (c : UInt8) x, x = c.toNat → UInt8.ofNat x = c := by rintro c x rfl; simp
    exact ⟨this _ _ (by omega), this _ _ (by omega)⟩
  | a :: b :: c :: r => by
    have ha := a.toNat_lt; have hb := b.toNat_lt; have hc := c.toNat_lt
    obtain ⟨l, h1, h2⟩ := refDec_enc r
    have hs : strip (enc (a :: b :: c :: r)) = [let_ (a.toNat / 4), let_ (a.toNat % 4 * 16 + b.toNat / 16), let_ (b.toNat % 16 * 4 + c.toNat / 64), let_ (c.toNat % 64)] ++ strip (enc r) :=
      strip_add _ _ (by simp; exact ⟨let_ne _ (by omega), let_ne _ (by omega), let_ne _ (by omega), let_ne _ (by omega)⟩)
    refine ⟨_, by rw [hs]; exact bitsL_let _ (by omega) _ _ (bitsL_let _ (by omega) _ _ (bitsL_let _ (by omega) _ _ (bitsL_let _ (by omega) _ _ h1))), ?_⟩
    rw [grp8_three, List.map_append, h2]
    have : ∀ (c : UInt8) x, x = c.toNat → UInt8.ofNat x = c := by rintro c x rfl; simp
    simp only [List.map_cons, List.map_nil, List.cons_append, List.nil_append, List.cons.injEq, and_true]
    exact ⟨this _ _ (by omega), this _ _ (by omega), this _ _ (by omega)⟩

/-- What the plain decoder hands back. -/
def refDec (t : List UInt8) : Option (List UInt8) := match bitsL (strip t) with
  | some l => if enc ((grp8 l).map UInt8.ofNat) = t then some ((grp8 l).map UInt8.ofNat) else none
  | none => none
theorem refDec_eq (t : List UInt8) : refDec t = dec t := by
  cases h : dec t with
  | some u =>
    have ht := enc_dec t u h
    obtain ⟨l, h1, h2⟩ := refDec_enc u
    unfold refDec
    rw [ht] at h1
    rw [h1]
    show (if _ then _ else _) = _
    rw [h2, if_pos ht]
  | none =>
    unfold refDec
    split
    · rename_i l hl
      by_cases he : enc ((grp8 l).map UInt8.ofNat) = t
      · have := dec_enc ((grp8 l).map UInt8.ofNat)
        rw [he, h] at this
        cases this
      · rw [if_neg he]
    · rfl

end Go.Proofs.Ythbfkconaofigaa.B64RefP
