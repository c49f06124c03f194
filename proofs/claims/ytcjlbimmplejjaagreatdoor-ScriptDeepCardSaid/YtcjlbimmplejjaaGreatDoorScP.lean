/-
  A script's lines, words, acts and blocks, as plain functions of lists of bytes. No program is named here.
-/
import Derived.Test.YtcjlbimmplejjaaGreatDoorWdP
namespace Go.Proofs.YtcjlbimmplejjaaGreatDoor.ScP
open Go Go.Proofs.YtcjlbimmplejjaaGreatDoor.WdP

abbrev Tx := List UInt8
structure Ac where
  k : Nat
  c : Int
  n : Int
  s : Tx
deriving DecidableEq

/-! ### A line's words -/
/-- Blanks taken, and what is not read. -/
def bl (s : Tx) : Tx := if (s.dropWhile (· == 32)).head? = some 35 then [] else s.dropWhile (· == 32)
/-- The first word; what stands behind it. -/
def wd (s : Tx) : Tx := (bl s).takeWhile (· != 32)
def rs (s : Tx) : Tx := (bl s).dropWhile (· != 32)
def numM (most : Nat) (w : Tx) : Option Nat := (num w).bind fun n => if n ≤ most then some n else none
def hexI (c : UInt8) : Option Nat := if 48 ≤ c.toNat ∧ c.toNat ≤ 57 then some (c.toNat - 48) else if 97 ≤ c.toNat ∧ c.toNat ≤ 102 then some (c.toNat - 87) else none
/-- What stands behind a mark of escape: the byte, the rest. -/
def esc : Tx → Option (UInt8 × Tx)
  | [] => none
  | c :: r => if c = 110 then some (10, r) else if c = 114 then some (13, r) else if c = 34 then some (34, r) else if c = 92 then some (92, r) else if c = 120 then
      match r with
      | a :: b :: q => match hexI a, hexI b with
        | some x, some y => some (UInt8.ofNat (16 * x + y), q)
        | _, _ => none
      | _ => none
    else none
def nib : Tx → Option (UInt8 × Tx)
  | [] => none
  | c :: r => if c = 92 then esc r else if 32 ≤ c.toNat ∧ c.toNat ≤ 126 then some (c, r) else none
def scanF : Nat → Tx → Option (Tx × Tx)
  | 0, _ => none
  | n + 1, s => if s.head? = some 34 then some ([], s.tail) else match nib s with
    | none => none
    | some (c, r) => (scanF n r).map fun x => (c :: x.1, x.2)
/-- A text up to its last mark, and what stands behind it. -/
def scan (s : Tx) : Option (Tx × Tx) := scanF (s.length + 1) s
def textP (s : Tx) : Option (Tx × Tx) :=
  if (bl s).head? = some 34 then match scan (bl s).tail with
    | some (t, q) => if t.length ≤ 4096 ∧ (q = [] ∨ q.head? = some 32) then some (t, q) else none
    | none => none
  else none

theorem esc_len {s : Tx} {c : UInt8} {r : Tx} (h : esc s = some (c, r)) : r.length < s.length := by
  unfold esc at h
  split at h
  · cases h
  · rename_i d q
    split at h
    · cases h; simp
    · split at h
      · cases h; simp
      · split at h
        · cases h; simp
        · split at h
          · cases h; simp
          · split at h
            · split at h
              · split at h
                · cases h; simp; omega
                · cases h
              · cases h
            · cases h
theorem step_len {s : Tx} {c : UInt8} {r : Tx} (h : nib s = some (c, r)) : r.length < s.length := by
  unfold nib at h
  split at h
  · cases h
  · rename_i d q
    split at h
    · have := esc_len h; simp; omega
    · split at h
      · cases h; simp
      · cases h
theorem scanF_eq : ∀ (n m : Nat) (s : Tx), s.length < n → s.length < m → scanF n s = scanF m s
  | 0, _, _, h, _ => by omega
  | _, 0, _, _, h => by omega
  | n + 1, m + 1, s, hn, hm => by
    simp only [scanF]
    split
    · rfl
    · split
      · rfl
      · rename_i c r he
        have := step_len he
        rw [scanF_eq n m r (by omega) (by omega)]
theorem scan_mark (r : Tx) : scan (34 :: r) = some ([], r) := by simp [scan, scanF]
theorem scan_none {s : Tx} (h : s.head? ≠ some 34) (hs : nib s = none) : scan s = none := by
  unfold scan scanF
  rw [if_neg h, hs]
theorem scan_step {s : Tx} {c : UInt8} {r : Tx} (h : s.head? ≠ some 34) (hs : nib s = some (c, r)) : scan s = (scan r).map fun x => (c :: x.1, x.2) := by
  have := step_len hs
  unfold scan
  rw [scanF, if_neg h, hs]
  simp only
  rw [scanF_eq s.length (r.length + 1) r (by omega) (by omega)]
/-- Induction along a text. -/
theorem scan_ind {P : Tx → Prop} (h1 : ∀ r, P (34 :: r)) (h2 : ∀ s, s.head? ≠ some 34 → nib s = none → P s)
    (h3 : ∀ s c r, s.head? ≠ some 34 → nib s = some (c, r) → P r → P s) : ∀ (n : Nat) (s : Tx), s.length < n → P s
  | 0, _, h => by omega
  | n + 1, s, h => by
    by_cases hh : s.head? = some 34
    · cases s with
      | nil => cases hh
      | cons c r => cases hh; exact h1 r
    · cases hs : nib s with
      | none => exact h2 s hh hs
      | some x =>
        obtain ⟨c, r⟩ := x
        exact h3 s c r hh hs (scan_ind h1 h2 h3 n r (by have := step_len hs; omega))

/-! ### Acts -/
structure Shp where
  k : Nat
  c : Bool
  s : Bool
  m : Option Nat
deriving DecidableEq
def wConnect : Tx := [99, 111, 110, 110, 101, 99, 116]
def wStop : Tx := [115, 116, 111, 112]
def wBytes : Tx := [98, 121, 116, 101, 115]
def wFinish : Tx := [102, 105, 110, 105, 115, 104]
def wCut : Tx := [99, 117, 116]
def wBreak : Tx := [98, 114, 101, 97, 107]
def wTick : Tx := [116, 105, 99, 107]
def wPick : Tx := [112, 105, 99, 107]
def wRounds : Tx := [114, 111, 117, 110, 100, 115]
def wTimes : Tx := [116, 105, 109, 101, 115]
def wEnd : Tx := [101, 110, 100]
def shps : List (Tx × Shp) := [(wConnect, ⟨1, false, false, none⟩), (wStop, ⟨9, false, false, none⟩), (wBytes, ⟨2, true, true, none⟩), (wFinish, ⟨4, true, false, none⟩),
  (wCut, ⟨3, true, false, some 65536⟩), (wBreak, ⟨5, true, false, some 65536⟩), (wTick, ⟨6, false, false, some 2147483647⟩), (wPick, ⟨7, false, false, some 2147483647⟩), (wRounds, ⟨8, false, false, some 1000⟩)]
def shp (w : Tx) : Option Shp := (shps.find? fun e => e.1 == w).map (·.2)
def takeC (h : Shp) (s : Tx) : Option (Nat × Tx) := if h.c then (numM 7 (wd s)).map fun n => (n, rs s) else some (0, s)
def takeS (h : Shp) (s : Tx) : Option (Tx × Tx) := if h.s then textP s else some ([], s)
def takeN (h : Shp) (s : Tx) : Option (Nat × Tx) := match h.m with | some m => (numM m (wd s)).map fun n => (n, rs s) | none => some (0, s)
def takeA (h : Shp) (s : Tx) : Option Ac := match takeC h s with
  | none => none
  | some (c, s1) => match takeS h s1 with
    | none => none
    | some (t, s2) => match takeN h s2 with
      | none => none
      | some (n, s3) => if bl s3 = [] then some ⟨h.k, c, n, t⟩ else none
/-- The act of a line whose first word was taken. -/
def actP (w s : Tx) : Option Ac := (shp w).bind fun h => takeA h s

/-! ### Blocks -/
structure Blk where
  l : List Ac
  many : Nat
  times : Nat
  line : Nat
def reps (n : Nat) (l : List Ac) : List Ac := (List.replicate n l).flatten
def addB (b : Blk) (l : List Ac) (many times : Nat) : Blk :=
  if many = 0 ∨ times = 0 then b else if 4096 < many ∨ 4096 < b.many + many * times then { b with l := [], many := 4097 } else { b with l := b.l ++ reps times l, many := b.many + many * times }
/-- A line; the innermost block is the first. -/
def lineP (st : List Blk) (s : Tx) (n : Nat) : Option (List Blk) :=
  if wd s = [] then some st
  else if wd s = wTimes then match numM 1000 (wd (rs s)) with
    | none => none
    | some k => if bl (rs (rs s)) = [] ∧ st.length ≤ 8 then some (⟨[], 0, k, n⟩ :: st) else none
  else if wd s = wEnd then match st with
    | b :: c :: q => if bl (rs s) = [] then some (addB c b.l b.many b.times :: q) else none
    | _ => none
  else match actP (wd s) (rs s) with
    | none => none
    | some x => match st with
      | b :: q => some (addB b [x] 1 1 :: q)
      | [] => none
def lns : Tx → List Tx
  | [] => [[]]
  | c :: r => if c = 10 then [] :: lns r else match lns r with
    | x :: xs => (c :: x) :: xs
    | [] => [[c]]
def goP : List Tx → Nat → List Blk → Except Nat (List Blk)
  | [], _, st => .ok st
  | s :: r, i, st => match lineP st s (i + 1) with
    | none => .error (i + 1)
    | some st' => goP r (i + 1) st'
def st0 : List Blk := [⟨[], 0, 0, 0⟩]
def finP : Except Nat (List Blk) → List Ac × Nat × Nat
  | .error n => ([], n, 8)
  | .ok [] => ([], 0, 0)
  | .ok [b] => if 4096 < b.many then ([], 0, 3) else (b.l, 0, 0)
  | .ok (b :: _ :: _) => ([], b.line, 11)
def parseP (t : Tx) : List Ac × Nat × Nat := if 65536 < t.length then ([], 0, 3) else finP (goP (lns t) 0 st0)

/-! ### Lines -/
theorem lns_ne (s : Tx) : ∃ x xs, lns s = x :: xs := by
  cases s with
  | nil => exact ⟨_, _, rfl⟩
  | cons c r =>
    unfold lns
    split
    · exact ⟨_, _, rfl⟩
    · split <;> exact ⟨_, _, rfl⟩
theorem lns_end (r : Tx) : lns (10 :: r) = [] :: lns r := by simp [lns]
theorem lns_cons (c : UInt8) (r x : Tx) (xs : List Tx) (h : c ≠ 10) (hp : lns r = x :: xs) : lns (c :: r) = (c :: x) :: xs := by
  simp [lns, h, hp]
theorem lns_none : ∀ (s : Tx), (∀ a ∈ s, a ≠ 10) → lns s = [s]
  | [], _ => rfl
  | c :: r, h => lns_cons c r r [] (h c (by simp)) (lns_none r fun a ha => h a (by simp [ha]))
theorem lns_at (x r : Tx) : lns (x ++ 10 :: r) = lns x ++ lns r := by
  induction x with
  | nil => exact lns_end r
  | cons c x ih =>
    obtain ⟨y, ys, hy⟩ := lns_ne x
    by_cases hc : c = 10
    · subst hc
      rw [List.cons_append, lns_end, lns_end, ih]; rfl
    · rw [List.cons_append, lns_cons c _ y (ys ++ lns r) hc (by rw [ih, hy]; rfl), lns_cons c x y ys hc hy]; rfl
theorem lns_mem : ∀ (s : Tx), ∀ x ∈ lns s, ∀ a ∈ x, a ≠ 10
  | [], x, hx, a, ha => by simp [lns] at hx; subst hx; cases ha
  | c :: r, x, hx, a, ha => by
    obtain ⟨y, ys, hy⟩ := lns_ne r
    have ih := lns_mem r
    rw [hy] at ih
    by_cases hc : c = 10
    · subst hc
      rw [lns_end, hy] at hx
      rcases List.mem_cons.1 hx with rfl | hx
      · cases ha
      · exact ih x hx a ha
    · rw [lns_cons c r y ys hc hy] at hx
      rcases List.mem_cons.1 hx with rfl | hx
      · rcases List.mem_cons.1 ha with rfl | ha
        · exact hc
        · exact ih y (by simp) a ha
      · exact ih x (by simp [hx]) a ha
/-- A text is its lines with a mark between them. -/
def joinL : List Tx → Tx
  | [] => []
  | [x] => x
  | x :: y :: l => x ++ 10 :: joinL (y :: l)
theorem joinL_cons (x : Tx) {l : List Tx} (h : l ≠ []) : joinL (x :: l) = x ++ 10 :: joinL l := by
  cases l with
  | nil => exact absurd rfl h
  | cons y l => rfl
theorem joinL_lns (s : Tx) : joinL (lns s) = s := by
  induction s with
  | nil => rfl
  | cons c r ih =>
    obtain ⟨y, ys, hy⟩ := lns_ne r
    by_cases hc : c = 10
    · subst hc
      rw [lns_end, joinL_cons [] (by rw [hy]; simp), ih]; rfl
    · rw [lns_cons c r y ys hc hy]
      rw [hy] at ih
      cases ys with
      | nil => simp [joinL] at ih ⊢; exact ih
      | cons z zs => rw [joinL_cons _ (by simp)] at ih ⊢; rw [← ih]; rfl
theorem lns_joinL {l : List Tx} (hne : l ≠ []) (h : ∀ x ∈ l, ∀ a ∈ x, a ≠ 10) : lns (joinL l) = l := by
  induction l with
  | nil => exact absurd rfl hne
  | cons x l ih =>
    cases l with
    | nil => exact lns_none x (h x (by simp))
    | cons y l =>
      rw [joinL_cons x (by simp), lns_at, ih (by simp) (fun z hz => h z (by simp [hz])), lns_none x (h x (by simp))]; rfl

/-! ### Going through lines -/
theorem goP_append : ∀ (a b : List Tx) (i : Nat) (st : List Blk), goP (a ++ b) i st = match goP a i st with | .error n => .error n | .ok s => goP b (i + a.length) s
  | [], b, i, st => by simp [goP]
  | x :: a, b, i, st => by
    simp only [List.cons_append, goP]
    split
    · rfl
    · rw [goP_append a b (i + 1)]
      simp only [List.length_cons]
      rw [show i + 1 + a.length = i + (a.length + 1) from by omega]
theorem goP_error : ∀ (l : List Tx) (i : Nat) (st : List Blk) (n : Nat), goP l i st = .error n → ∃ k x sk, n = i + k + 1 ∧ l[k]? = some x ∧ goP (l.take k) i st = .ok sk ∧ lineP sk x n = none
  | [], i, st, n, h => by simp [goP] at h
  | x :: l, i, st, n, h => by
    simp only [goP] at h
    cases hl : lineP st x (i + 1) with
    | none => rw [hl] at h; cases h; exact ⟨0, x, st, by omega, rfl, rfl, hl⟩
    | some st' =>
      rw [hl] at h
      obtain ⟨k, y, sk, rfl, hy, hk, hn⟩ := goP_error l (i + 1) st' n h
      exact ⟨k + 1, y, sk, by omega, by simpa using hy, by rw [List.take_succ_cons]; simp only [goP, hl]; exact hk, hn⟩
theorem goP_stop {l : List Tx} {i k : Nat} {st sk : List Blk} {x : Tx} (hx : l[k]? = some x) (hk : goP (l.take k) i st = .ok sk) (hn : lineP sk x (i + k + 1) = none) : goP (l.take (k + 1)) i st = .error (i + k + 1) := by
  have hkl : k < l.length := (List.getElem?_eq_some_iff.1 hx).1
  rw [List.take_add_one, hx]
  rw [goP_append, hk]
  simp only [Option.toList_some, goP, List.length_take, Nat.min_eq_left (Nat.le_of_lt hkl), hn]
theorem lineP_nil (st : List Blk) (n : Nat) : lineP st [] n = some st := by simp [lineP, wd, bl]
theorem lineP_ne {st : List Blk} {s : Tx} {n : Nat} {st' : List Blk} (h : lineP st s n = some st') (hne : st ≠ []) : st' ≠ [] := by
  unfold lineP at h
  split at h
  · cases h; exact hne
  · split at h
    · split at h
      · cases h
      · split at h
        · cases h; simp
        · cases h
    · split at h
      · split at h
        · split at h
          · cases h; simp
          · cases h
        · cases h
      · split at h
        · cases h
        · split at h
          · cases h; simp
          · cases h
theorem goP_ne : ∀ (l : List Tx) (i : Nat) (st st' : List Blk), goP l i st = .ok st' → st ≠ [] → st' ≠ []
  | [], _, _, _, h, hne => by simp [goP] at h; rw [← h]; exact hne
  | x :: l, i, st, st', h, hne => by
    simp only [goP] at h
    split at h
    · cases h
    · rename_i s1 h1
      exact goP_ne l _ _ _ h (lineP_ne h1 hne)
theorem parseP_form {t : Tx} (ht : t.length ≤ 65536) : (parseP t).2.2 = 8 ↔ ∃ n, goP (lns t) 0 st0 = .error n := by
  unfold parseP
  rw [if_neg (by omega)]
  cases h : goP (lns t) 0 st0 with
  | error n => simp [finP]
  | ok st =>
    refine iff_of_false ?_ (by simp)
    cases st with
    | nil => simp [finP]
    | cons b q =>
      cases q with
      | nil => by_cases h4 : 4096 < b.many <;> simp [finP, h4]
      | cons c q => simp [finP]
end Go.Proofs.YtcjlbimmplejjaaGreatDoor.ScP
