/-
  Words, as plain functions of lists of bytes, and their laws. No program is named here.
-/
import Derived.Lib.ItoaNum
import Derived.Lib.ItoaMem
import Derived.Lib.AtoiAll
import Derived.Lib.Split
import Derived.Lib.IndexMore
namespace Go.Proofs.YtcjlbimmplejjaaGreatDoor.WdP
open Go

/-! ### Numbers -/
theorem decDigits_big {u : Nat} (h : ¬ u < 10) : Lib.decDigits u = Lib.decDigits (u / 10) ++ [UInt8.ofNat (48 + u % 10)] := by
  rw [Lib.decDigits, dif_neg h]

theorem digit_toNat {d : Nat} (h : d < 10) : (UInt8.ofNat (48 + d)).toNat = 48 + d := by simp; omega

def numFrom (acc : Nat) : List UInt8 → Option Nat
  | [] => some acc
  | c :: r => if c.toNat < 48 ∨ 57 < c.toNat ∨ 461168601842738791 < acc then none
    else if 4611686018427387904 < 10 * acc + (c.toNat - 48) then none else numFrom (10 * acc + (c.toNat - 48)) r
/-- A word's number. -/
def num (s : List UInt8) : Option Nat := if s = [] ∨ 19 < s.length ∨ (1 < s.length ∧ s[0]? = some 48) then none else numFrom 0 s

theorem numFrom_append (l r : List UInt8) : ∀ acc, numFrom acc (l ++ r) = (numFrom acc l).bind fun v => numFrom v r := by
  induction l with
  | nil => intro acc; rfl
  | cons c l ih =>
    intro acc
    simp only [List.cons_append, numFrom]
    split
    · rfl
    · split
      · rfl
      · exact ih _
theorem numFrom_le (l : List UInt8) : ∀ acc n, acc ≤ 4611686018427387904 → numFrom acc l = some n → n ≤ 4611686018427387904 := by
  induction l with
  | nil => intro acc n h e; simp [numFrom] at e; omega
  | cons c l ih =>
    intro acc n h e
    simp only [numFrom] at e
    split at e
    · cases e
    · split at e
      · cases e
      · exact ih _ _ (by omega) e
theorem parseUint10_append (l r : List UInt8) : ∀ acc v, Lib.parseUint10 acc l = .ok v → Lib.parseUint10 acc (l ++ r) = Lib.parseUint10 v r := by
  induction l with
  | nil =>
    intro acc v h
    simp only [Lib.parseUint10] at h
    injection h with h
    rw [h]; rfl
  | cons c l ih =>
    intro acc v h
    simp only [List.cons_append, Lib.parseUint10] at h ⊢
    split at h
    · split at h
      · cases h
      · split at h
        · cases h
        · rename_i h1 h2 h3
          rw [if_pos h1, if_neg h2, if_neg h3]
          exact ih _ _ h
    · cases h
theorem numFrom_dec : ∀ n : Nat, n ≤ 4611686018427387904 → numFrom 0 (Lib.decDigits n) = some n := by
  intro n
  induction n using Nat.strongRecOn with
  | _ n ih =>
    intro h
    by_cases h1 : n < 10
    · rw [Lib.decDigits_one h1]
      simp only [numFrom, digit_toNat h1]
      rw [if_neg (by omega), if_neg (by omega)]
      simp
    · rw [decDigits_big h1, numFrom_append, ih (n / 10) (by omega) (by omega)]
      have hd := digit_toNat (d := n % 10) (by omega)
      simp only [Option.bind_some, numFrom, hd]
      rw [if_neg (by omega), if_neg (by omega)]
      congr 1; omega
theorem parseUint10_dec : ∀ n : Nat, n < 18446744073709551616 → Lib.parseUint10 0 (Lib.decDigits n) = .ok n := by
  intro n
  induction n using Nat.strongRecOn with
  | _ n ih =>
    intro h
    by_cases h1 : n < 10
    · rw [Lib.decDigits_one h1]
      simp only [Lib.parseUint10, digit_toNat h1]
      rw [if_pos (by omega), if_neg (by omega), if_neg (by omega)]
      congr 1; omega
    · rw [decDigits_big h1, parseUint10_append _ _ _ _ (ih (n / 10) (by omega) (by omega))]
      have hd := digit_toNat (d := n % 10) (by omega)
      simp only [Lib.parseUint10, hd]
      rw [if_pos (by omega), if_neg (by omega), if_neg (by omega)]
      congr 1; omega
theorem dec_ne (n : Nat) : Lib.decDigits n ≠ [] := by
  by_cases h1 : n < 10
  · rw [Lib.decDigits_one h1]; simp
  · rw [decDigits_big h1]; simp
theorem dec_digit (n : Nat) : ∀ c ∈ Lib.decDigits n, 48 ≤ c.toNat ∧ c.toNat ≤ 57 := by
  induction n using Nat.strongRecOn with
  | _ n ih =>
    intro c hc
    by_cases h1 : n < 10
    · rw [Lib.decDigits_one h1, List.mem_singleton] at hc
      rw [hc, digit_toNat h1]; omega
    · rw [decDigits_big h1, List.mem_append, List.mem_singleton] at hc
      rcases hc with hc | hc
      · exact ih (n / 10) (by omega) c hc
      · rw [hc, digit_toNat (by omega)]; omega
theorem dec_head (n : Nat) (h : 1 ≤ n) : (Lib.decDigits n)[0]? ≠ some 48 := by
  induction n using Nat.strongRecOn with
  | _ n ih =>
    by_cases h1 : n < 10
    · rw [Lib.decDigits_one h1]
      intro e
      have := digit_toNat h1
      simp only [List.getElem?_cons_zero, Option.some.injEq] at e
      rw [e] at this
      simp at this; omega
    · rw [decDigits_big h1, List.getElem?_append_left (List.length_pos_iff.2 (dec_ne _))]
      exact ih (n / 10) (by omega) (by omega)
theorem dec_len : ∀ (k n : Nat), 1 ≤ k → n < 10 ^ k → (Lib.decDigits n).length ≤ k
  | 0, n, h, _ => by omega
  | 1, n, _, h => by
    have h1 : n < 10 := by simpa using h
    rw [Lib.decDigits_one h1]; simp
  | k + 2, n, _, h => by
    by_cases h1 : n < 10
    · rw [Lib.decDigits_one h1]; simp
    · rw [decDigits_big h1, List.length_append]
      have : n / 10 < 10 ^ (k + 1) := by
        rw [Nat.div_lt_iff_lt_mul (by omega)]
        rw [Nat.pow_succ] at h
        omega
      have := dec_len (k + 1) (n / 10) (by omega) this
      simp; omega
theorem dec_long (n : Nat) : 1 < (Lib.decDigits n).length → 1 ≤ n := by
  intro h
  rcases Nat.eq_zero_or_pos n with rfl | h1
  · rw [Lib.decDigits_one (by omega)] at h; simp at h
  · exact h1
theorem num_dec (n : Nat) (h : n ≤ 4611686018427387904) : num (Lib.decDigits n) = some n := by
  unfold num
  rw [if_neg, numFrom_dec n h]
  rintro (h1 | h1 | ⟨h1, h2⟩)
  · exact dec_ne n h1
  · have := dec_len 19 n (by omega) (by omega); omega
  · exact dec_head n (dec_long n h1) h2
theorem atoi_dec (n : Nat) (h : n < 9223372036854775808) : Lib.atoiAll (Lib.decDigits n) = .ok (n : Int) := by
  have h1 := dec_ne n
  have h2 := dec_digit n
  have h3 := parseUint10_dec n (by omega)
  generalize Lib.decDigits n = l at *
  cases l with
  | nil => exact absurd rfl h1
  | cons c r =>
    have hc := h2 c (by simp)
    unfold Lib.atoiAll
    simp only
    rw [if_neg (by omega)]
    unfold Lib.parseMag
    rw [if_neg (by simp), h3]
    simp only
    rw [if_neg (by omega), if_neg (by omega), if_neg (by omega)]
theorem numFrom_inv : ∀ (k : Nat) (s : List UInt8) (n : Nat), s.length = k → s ≠ [] → (1 < s.length → s[0]? ≠ some 48) → numFrom 0 s = some n → s = Lib.decDigits n := by
  intro k
  induction k with
  | zero => intro s n h1 h2; exact absurd (List.eq_nil_of_length_eq_zero h1) h2
  | succ k ih =>
    intro s n hl hne h0 h
    obtain ⟨l, c, rfl⟩ : ∃ l c, s = l ++ [c] := ⟨s.dropLast, s.getLast hne, (List.dropLast_concat_getLast hne).symm⟩
    rw [numFrom_append] at h
    cases hm : numFrom 0 l with
    | none => rw [hm] at h; cases h
    | some m =>
      rw [hm] at h
      simp only [Option.bind_some, numFrom] at h
      split at h
      · cases h
      · rename_i hc
        split at h
        · cases h
        · have hn := Option.some.inj h
          have hcc : c = UInt8.ofNat (48 + (c.toNat - 48)) := by
            apply UInt8.toNat_inj.1
            rw [digit_toNat (by omega)]; omega
          by_cases hlz : l = []
          · subst hlz
            simp [numFrom] at hm
            rw [← hn, ← hm, Lib.decDigits_one (by omega)]
            simp only [List.nil_append, List.cons.injEq, and_true]
            rw [hcc]; congr 1; rw [digit_toNat (by omega)]; omega
          · have hlp := List.length_pos_iff.2 hlz
            have hh0 : l[0]? ≠ some 48 := by
              have := h0 (by simp; omega)
              rwa [List.getElem?_append_left hlp] at this
            have e := ih l m (by simp at hl; omega) hlz (fun _ => hh0) hm
            have hm1 : 1 ≤ m := by
              rcases Nat.eq_zero_or_pos m with rfl | h1
              · rw [Lib.decDigits_one (by omega)] at e
                rw [e] at hh0; simp at hh0
              · exact h1
            rw [← hn, decDigits_big (by omega), show (10 * m + (c.toNat - 48)) / 10 = m from by omega, show (10 * m + (c.toNat - 48)) % 10 = c.toNat - 48 from by omega, ← e, ← hcc]
theorem num_inv {s : List UInt8} {n : Nat} (h : num s = some n) : s = Lib.decDigits n ∧ n ≤ 4611686018427387904 := by
  unfold num at h
  split at h
  · cases h
  · rename_i hs
    refine ⟨numFrom_inv _ s n rfl (fun e => hs (.inl e)) (fun h1 h2 => hs (.inr (.inr ⟨h1, h2⟩))) h, numFrom_le s 0 n (by omega) h⟩
/-- What Go's Atoi and Itoa tell together. -/
theorem num_atoi (s : List UInt8) : num s = match Lib.atoiAll s with
    | .ok v => if 0 ≤ v ∧ v ≤ 4611686018427387904 ∧ Lib.itoa v = s then some v.toNat else none
    | _ => none := by
  cases hn : num s with
  | some n =>
    obtain ⟨rfl, h2⟩ := num_inv hn
    rw [atoi_dec n (by omega)]
    simp only
    rw [if_pos ⟨by omega, by omega, Lib.itoa_nonneg n⟩]
    simp
  | none =>
    split
    · rename_i v hv
      split
      · rename_i h
        obtain ⟨h1, h2, h3⟩ := h
        obtain ⟨n, rfl⟩ := Int.eq_ofNat_of_zero_le h1
        rw [Lib.itoa_nonneg] at h3
        rw [← h3, num_dec n (by omega)] at hn
        cases hn
      · rfl
    · rfl

/-! ### Cutting -/
/-- What stands ahead of the first blank, what behind it, and whether there is one. -/
def cutB : List UInt8 → List UInt8 × List UInt8 × Bool
  | [] => ([], [], false)
  | c :: r => if c = 32 then ([], r, true) else (c :: (cutB r).1, (cutB r).2.1, (cutB r).2.2)
theorem cutB_at (x r : List UInt8) (h : ∀ a ∈ x, a ≠ 32) : cutB (x ++ 32 :: r) = (x, r, true) := by
  induction x with
  | nil => simp [cutB]
  | cons c l ih =>
    have := ih fun a ha => h a (by simp [ha])
    simp only [List.cons_append, cutB]
    rw [if_neg (h c (by simp)), this]
theorem cutB_none (x : List UInt8) (h : ∀ a ∈ x, a ≠ 32) : cutB x = (x, [], false) := by
  induction x with
  | nil => rfl
  | cons c l ih =>
    have := ih fun a ha => h a (by simp [ha])
    simp only [cutB]
    rw [if_neg (h c (by simp)), this]
theorem cutB_cases (s : List UInt8) : (∃ x r, s = x ++ 32 :: r ∧ (∀ a ∈ x, a ≠ 32) ∧ cutB s = (x, r, true)) ∨ ((∀ a ∈ s, a ≠ 32) ∧ cutB s = (s, [], false)) := by
  induction s with
  | nil => right; exact ⟨by simp, rfl⟩
  | cons c l ih =>
    by_cases hc : c = 32
    · left; exact ⟨[], l, by simp [hc], by simp, by simp [cutB, hc]⟩
    · rcases ih with ⟨x, r, rfl, h, e⟩ | ⟨h, e⟩
      · left
        refine ⟨c :: x, r, rfl, ?_, ?_⟩
        · intro a ha
          rcases List.mem_cons.1 ha with rfl | ha
          · exact hc
          · exact h a ha
        · simp only [cutB]; rw [if_neg hc, e]
      · right
        refine ⟨?_, ?_⟩
        · intro a ha
          rcases List.mem_cons.1 ha with rfl | ha
          · exact hc
          · exact h a ha
        · simp only [cutB]; rw [if_neg hc, e]
theorem cutB_len (s : List UInt8) : (cutB s).1.length ≤ s.length ∧ (cutB s).2.1.length ≤ s.length ∧ ((cutB s).2.2 = true → (cutB s).1.length + 1 + (cutB s).2.1.length = s.length) := by
  rcases cutB_cases s with ⟨x, r, rfl, _, e⟩ | ⟨_, e⟩ <;> rw [e] <;> simp <;> omega
theorem index_none (c : UInt8) : ∀ s : List UInt8, (∀ a ∈ s, a ≠ c) → Lib.index s [c] = -1
  | [], _ => rfl
  | b :: l, h => by
    have h1 : (c == b) = false := by simpa using fun e => h b (by simp) e.symm
    have h2 := index_none c l fun a ha => h a (by simp [ha])
    simp [Lib.index, List.isPrefixOf, h1, h2]
theorem index_at (c : UInt8) : ∀ (x r : List UInt8), (∀ a ∈ x, a ≠ c) → Lib.index (x ++ c :: r) [c] = x.length
  | [], r, _ => by simp [Lib.index, List.isPrefixOf]
  | b :: l, r, h => by
    have h1 : (c == b) = false := by simpa using fun e => h b (by simp) e.symm
    have h2 := index_at c l r fun a ha => h a (by simp [ha])
    have h3 : ((l.length : Int) == -1) = false := by simp
    show Lib.index (b :: (l ++ c :: r)) [c] = _
    simp [Lib.index, List.isPrefixOf, h1, h2, h3]
theorem cut_lib (s : List UInt8) : Lib.cut s [32] = cutB s := by
  rcases cutB_cases s with ⟨x, r, rfl, h, e⟩ | ⟨h, e⟩
  · rw [e]; unfold Lib.cut; rw [index_at 32 x r h]; simp
  · rw [e]; unfold Lib.cut; rw [index_none 32 s h]; simp
theorem splitK_one (k : Nat) (s : List UInt8) : Lib.splitK [32] 0 (k + 1) s = if (cutB s).2.2 then (cutB s).1 :: Lib.splitK [32] 0 k (cutB s).2.1 else [s] := by
  rcases cutB_cases s with ⟨x, r, rfl, h, e⟩ | ⟨h, e⟩
  · rw [e, Lib.splitK, index_at 32 x r h]; simp
  · rw [e, Lib.splitK, index_none 32 s h]; simp
theorem splitK_zero (s : List UInt8) : Lib.splitK [32] 0 0 s = [s] := by unfold Lib.splitK; rfl

/-! ### Words -/
def tchar (c : UInt8) : Bool := (97 ≤ c.toNat && c.toNat ≤ 122) || (65 ≤ c.toNat && c.toNat ≤ 90) || (48 ≤ c.toNat && c.toNat ≤ 57) || ([33, 35, 36, 37, 38, 39, 42, 43, 45, 46, 94, 95, 96, 124, 126] : List UInt8).contains c
def isTok (s : List UInt8) : Bool := !s.isEmpty && s.all tchar
def topic (s : List UInt8) : Bool := decide (s.length ≤ 32) && isTok s
theorem topic_no32 {s : List UInt8} (h : topic s = true) : ∀ a ∈ s, a ≠ 32 := by
  rintro a ha rfl
  simp only [topic, isTok, Bool.and_eq_true, List.all_eq_true] at h
  have := h.2.2 32 ha
  revert this; decide

def wSUB : List UInt8 := [83, 85, 66]
def wUNSUB : List UInt8 := [85, 78, 83, 85, 66]
def wPUB : List UInt8 := [80, 85, 66]
def wMSG : List UInt8 := [77, 83, 71]
def wERR : List UInt8 := [69, 82, 82]

abbrev Cmd := Nat × List UInt8 × List UInt8
def parseW (s : List UInt8) : Option Cmd :=
  let x := cutB s
  if x.1 = wSUB then (if topic x.2.1 then some (1, x.2.1, []) else none)
  else if x.1 = wUNSUB then (if topic x.2.1 then some (2, x.2.1, []) else none)
  else if x.1 = wPUB then (let y := cutB x.2.1; if y.2.2 && topic y.1 then some (3, y.1, y.2.1) else none)
  else none
def bytesW (k : Int) (t d : List UInt8) : Option (List UInt8) :=
  if topic t = false then none else
  if k = 1 then (if d = [] then some (wSUB ++ 32 :: t) else none)
  else if k = 2 then (if d = [] then some (wUNSUB ++ 32 :: t) else none)
  else if k = 3 then some (wPUB ++ 32 :: (t ++ 32 :: d)) else none
abbrev Del := List UInt8 × Nat × Nat × List UInt8
def may (n : Int) : Bool := decide (0 ≤ n) && decide (n ≤ 4611686018427387904)
def toldW (t : List UInt8) (from_ n : Int) (d : List UInt8) : Option (List UInt8) :=
  if topic t && may from_ && may n then some (wMSG ++ 32 :: (t ++ 32 :: (Lib.decDigits from_.toNat ++ 32 :: (Lib.decDigits n.toNat ++ 32 :: d)))) else none
def hearW (s : List UInt8) : Option Del :=
  let x := cutB s
  let y := cutB x.2.1
  let z := cutB y.2.1
  let w := cutB z.2.1
  if x.1 = wMSG ∧ x.2.2 = true ∧ y.2.2 = true ∧ z.2.2 = true ∧ w.2.2 = true ∧ topic y.1 = true then
    match num z.1, num w.1 with
    | some a, some b => some (y.1, a, b, w.2.1)
    | _, _ => none
  else none
def faultW (n : Int) : Option (List UInt8) := if may n then some (wERR ++ 32 :: Lib.decDigits n.toNat) else none
def faultedW (s : List UInt8) : Option Nat :=
  let x := cutB s
  if x.1 = wERR ∧ x.2.2 = true then num x.2.1 else none

theorem dec_no32 (n : Nat) : ∀ a ∈ Lib.decDigits n, a ≠ 32 := by
  rintro a ha rfl
  have := dec_digit n _ ha
  revert this; decide

theorem parse_bytes {k : Int} {t d s : List UInt8} (h : bytesW k t d = some s) : ∃ n : Nat, k = n ∧ parseW s = some (n, t, d) ∧ topic t = true := by
  unfold bytesW at h
  split at h
  · cases h
  · rename_i ht
    have ht : topic t = true := by simpa using ht
    have h32 := topic_no32 ht
    split at h
    · rename_i hk
      split at h
      · rename_i hd
        obtain rfl := Option.some.inj h
        refine ⟨1, hk, ?_, ht⟩
        unfold parseW
        rw [cutB_at wSUB t (by decide)]
        simp [ht, hd]
      · cases h
    · split at h
      · rename_i hk
        split at h
        · rename_i hd
          obtain rfl := Option.some.inj h
          refine ⟨2, hk, ?_, ht⟩
          unfold parseW
          rw [cutB_at wUNSUB t (by decide)]
          simp only
          rw [if_neg (by decide), if_pos trivial, if_pos ht, hd]
        · cases h
      · split at h
        · rename_i hk
          obtain rfl := Option.some.inj h
          refine ⟨3, hk, ?_, ht⟩
          unfold parseW
          rw [cutB_at wPUB _ (by decide)]
          simp only
          rw [if_neg (by decide), if_neg (by decide), if_pos trivial, cutB_at t d h32]
          simp [ht]
        · cases h
theorem bytes_parse {s : List UInt8} {k : Nat} {t d : List UInt8} (h : parseW s = some (k, t, d)) : bytesW k t d = some s ∧ 1 ≤ k ∧ k ≤ 3 := by
  unfold parseW at h
  simp only at h
  rcases cutB_cases s with ⟨x, r, rfl, hx, e⟩ | ⟨hx, e⟩
  · rw [e] at h
    simp only at h
    split at h
    · rename_i h1
      split at h
      · rename_i h2
        cases h
        subst h1
        simp [bytesW, h2]
      · cases h
    · split at h
      · rename_i h1
        split at h
        · rename_i h2
          cases h
          subst h1
          simp [bytesW, h2]
        · cases h
      · split at h
        · rename_i h1
          split at h
          · rename_i h2
            cases h
            subst h1
            rcases cutB_cases r with ⟨y, q, rfl, hy, e2⟩ | ⟨hy, e2⟩
            · rw [e2] at h2 ⊢
              simp only [Bool.true_and] at h2
              simp [bytesW, h2]
            · rw [e2] at h2; simp at h2
          · cases h
        · cases h
  · rw [e] at h
    have ht : topic [] = false := rfl
    simp only [ht] at h
    simp [cutB] at h
theorem hear_told {t : List UInt8} {a b : Int} {d s : List UInt8} (h : toldW t a b d = some s) : ∃ m n : Nat, a = m ∧ b = n ∧ hearW s = some (t, m, n, d) := by
  unfold toldW at h
  split at h
  · rename_i hc
    simp only [Bool.and_eq_true, may, decide_eq_true_eq] at hc
    obtain ⟨⟨ht, ha⟩, hb⟩ := hc
    obtain rfl := Option.some.inj h
    obtain ⟨m, rfl⟩ := Int.eq_ofNat_of_zero_le ha.1
    obtain ⟨n, rfl⟩ := Int.eq_ofNat_of_zero_le hb.1
    refine ⟨m, n, rfl, rfl, ?_⟩
    simp only [Int.toNat_natCast]
    unfold hearW
    rw [cutB_at wMSG _ (by decide)]
    simp only
    rw [cutB_at t _ (topic_no32 ht)]
    simp only
    rw [cutB_at _ _ (dec_no32 m)]
    simp only
    rw [cutB_at _ _ (dec_no32 n)]
    simp only
    rw [if_pos ⟨trivial, trivial, trivial, trivial, trivial, ht⟩, num_dec m (by omega), num_dec n (by omega)]
  · cases h
theorem told_hear {s t : List UInt8} {a b : Nat} {d : List UInt8} (h : hearW s = some (t, a, b, d)) : toldW t a b d = some s := by
  unfold hearW at h
  simp only at h
  split at h
  · rename_i hc
    obtain ⟨h1, h2, h3, h4, h5, h6⟩ := hc
    rcases cutB_cases s with ⟨x, r, rfl, hx, e⟩ | ⟨hx, e⟩
    · rw [e] at h h1 h2 h3 h4 h5 h6
      simp only at h h1 h2 h3 h4 h5 h6
      rcases cutB_cases r with ⟨y, r2, rfl, hy, e2⟩ | ⟨hy, e2⟩
      · rw [e2] at h h3 h4 h5 h6
        simp only at h h3 h4 h5 h6
        rcases cutB_cases r2 with ⟨z, r3, rfl, hz, e3⟩ | ⟨hz, e3⟩
        · rw [e3] at h h4 h5
          simp only at h h4 h5
          rcases cutB_cases r3 with ⟨v, r4, rfl, hv, e4⟩ | ⟨hv, e4⟩
          · rw [e4] at h h5
            simp only at h h5
            cases hz2 : num z with
            | none => rw [hz2] at h; simp at h
            | some p =>
              cases hv2 : num v with
              | none => rw [hz2, hv2] at h; simp at h
              | some q =>
                rw [hz2, hv2] at h
                simp only [Option.some.injEq, Prod.mk.injEq] at h
                obtain ⟨rfl, rfl, rfl, rfl⟩ := h
                obtain ⟨ez, lz⟩ := num_inv hz2
                obtain ⟨ev, lv⟩ := num_inv hv2
                unfold toldW
                rw [if_pos (by simp [h6, may]; omega)]
                simp only [Int.toNat_natCast, ← ez, ← ev, h1]
          · rw [e4] at h5; cases h5
        · rw [e3] at h4; cases h4
      · rw [e2] at h3; cases h3
    · rw [e] at h2; cases h2
  · cases h
theorem faulted_fault {n : Int} {s : List UInt8} (h : faultW n = some s) : ∃ m : Nat, n = m ∧ faultedW s = some m ∧ m ≤ 4611686018427387904 := by
  unfold faultW at h
  split at h
  · rename_i hc
    simp only [may, Bool.and_eq_true, decide_eq_true_eq] at hc
    obtain rfl := Option.some.inj h
    obtain ⟨m, rfl⟩ := Int.eq_ofNat_of_zero_le hc.1
    refine ⟨m, rfl, ?_, by omega⟩
    simp only [Int.toNat_natCast]
    unfold faultedW
    rw [cutB_at wERR _ (by decide)]
    simp only
    rw [if_pos ⟨trivial, trivial⟩, num_dec m (by omega)]
  · cases h
theorem fault_faulted {s : List UInt8} {n : Nat} (h : faultedW s = some n) : faultW n = some s := by
  unfold faultedW at h
  simp only at h
  rcases cutB_cases s with ⟨x, r, rfl, hx, e⟩ | ⟨hx, e⟩
  · rw [e] at h
    simp only at h
    split at h
    · rename_i h1
      obtain ⟨e2, l2⟩ := num_inv h
      unfold faultW
      rw [if_pos (by simp [may]; omega)]
      simp only [Int.toNat_natCast, ← e2, h1.1]
    · cases h
  · rw [e] at h; simp at h
/-- No words are of two of the three. -/
theorem first_parse {s : List UInt8} {c : Cmd} (h : parseW s = some c) : (cutB s).1 = wSUB ∨ (cutB s).1 = wUNSUB ∨ (cutB s).1 = wPUB := by
  unfold parseW at h
  simp only at h
  by_cases h1 : (cutB s).1 = wSUB
  · exact .inl h1
  by_cases h2 : (cutB s).1 = wUNSUB
  · exact .inr (.inl h2)
  by_cases h3 : (cutB s).1 = wPUB
  · exact .inr (.inr h3)
  rw [if_neg h1, if_neg h2, if_neg h3] at h; cases h
theorem first_hear {s : List UInt8} {c : Del} (h : hearW s = some c) : (cutB s).1 = wMSG := by
  unfold hearW at h
  simp only at h
  split at h
  · rename_i h1; exact h1.1
  · cases h
theorem first_faulted {s : List UInt8} {c : Nat} (h : faultedW s = some c) : (cutB s).1 = wERR := by
  unfold faultedW at h
  simp only at h
  split at h
  · rename_i h1; exact h1.1
  · cases h

/-- The five words of a delivery. -/
def five (s : List UInt8) : List (List UInt8) := Lib.splitK [32] 0 (min 5 (s.length + 1) - 1) s
theorem splitK_len : ∀ (k : Nat) (s : List UInt8), (Lib.splitK [32] 0 k s).length ≤ k + 1 ∧ (Lib.splitK [32] 0 k s).length ≤ s.length + 1
  | 0, s => by simp [splitK_zero]
  | k + 1, s => by
    rw [splitK_one]
    split
    · rename_i h
      have h1 := splitK_len k (cutB s).2.1
      have h2 := (cutB_len s).2.2 h
      simp; omega
    · simp
theorem five_of (s : List UInt8) : ((five s).length < 5 ∧ hearW s = none) ∨
    ∃ a b c d e, five s = [a, b, c, d, e] ∧ (cutB s) = (a, (cutB s).2.1, true) ∧ hearW s = if a = wMSG ∧ topic b = true then (match num c, num d with | some m, some n => some (b, m, n, e) | _, _ => none) else none := by
  by_cases hs : s.length < 4
  · left
    refine ⟨?_, ?_⟩
    · have := splitK_len (min 5 (s.length + 1) - 1) s
      unfold five; omega
    · unfold hearW
      simp only
      split
      · rename_i hc
        obtain ⟨h1, h2, h3, h4, h5, h6⟩ := hc
        have l1 := (cutB_len s).2.2 h2
        have l2 := (cutB_len _).2.2 h3
        have l3 := (cutB_len _).2.2 h4
        have l4 := (cutB_len _).2.2 h5
        omega
      · rfl
  · have hk : min 5 (s.length + 1) - 1 = 4 := by omega
    unfold five
    rw [hk, splitK_one]
    unfold hearW
    simp only
    cases h1 : (cutB s).2.2
    · left; exact ⟨by simp, by rw [if_neg (by simp)]⟩
    rw [if_pos rfl, splitK_one]
    cases h2 : (cutB (cutB s).2.1).2.2
    · left; exact ⟨by simp, by rw [if_neg (by simp)]⟩
    rw [if_pos rfl, splitK_one]
    cases h3 : (cutB (cutB (cutB s).2.1).2.1).2.2
    · left; exact ⟨by simp, by rw [if_neg (by simp)]⟩
    rw [if_pos rfl, splitK_one]
    cases h4 : (cutB (cutB (cutB (cutB s).2.1).2.1).2.1).2.2
    · left; exact ⟨by simp, by rw [if_neg (by simp)]⟩
    right
    rw [if_pos rfl, splitK_zero]
    refine ⟨_, _, _, _, _, rfl, by rw [← h1], ?_⟩
    simp only [true_and]

end Go.Proofs.YtcjlbimmplejjaaGreatDoor.WdP
