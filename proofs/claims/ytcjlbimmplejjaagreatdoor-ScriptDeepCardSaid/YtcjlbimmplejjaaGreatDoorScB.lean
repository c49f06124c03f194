/-
  What is printed is read as the list. No program is named here.
-/
import Derived.Test.YtcjlbimmplejjaaGreatDoorScT
namespace Go.Proofs.YtcjlbimmplejjaaGreatDoor.ScB
open Go Go.Proofs.YtcjlbimmplejjaaGreatDoor.WdP Go.Proofs.YtcjlbimmplejjaaGreatDoor.ScP Go.Proofs.YtcjlbimmplejjaaGreatDoor.ScQ Go.Proofs.YtcjlbimmplejjaaGreatDoor.ScT

def kin (k : Nat) : Option (Tx × Shp) := shps.find? fun e => e.2.k == k
def rightA (x : Ac) : Bool := match kin x.k with
  | none => false
  | some e => (if e.2.c then decide (0 ≤ x.c ∧ x.c < 8) else x.c == 0) && (if e.2.s then decide (x.s.length ≤ 4096) else x.s == []) && (match e.2.m with | some m => decide (0 ≤ x.n ∧ x.n ≤ (m : Int)) | none => x.n == 0)
def hexD : Tx := [48, 49, 50, 51, 52, 53, 54, 55, 56, 57, 97, 98, 99, 100, 101, 102]
def quoteB (c : UInt8) : Tx := if c = 10 then [92, 110] else if c = 13 then [92, 114] else if c = 34 then [92, 34] else if c = 92 then [92, 92]
  else if c.toNat < 32 ∨ 126 < c.toNat then [92, 120, hexD.getD (c.toNat / 16) 0, hexD.getD (c.toNat % 16) 0] else [c]
def quote (s : Tx) : Tx := 34 :: (s.flatMap quoteB ++ [34])
def nPart : Option Nat → Int → Tx
  | some _, n => 32 :: Lib.itoa n
  | none, _ => []
def wordA (x : Ac) : Tx := match kin x.k with
  | none => []
  | some e => e.1 ++ ((if e.2.c then 32 :: Lib.itoa x.c else []) ++ ((if e.2.s then 32 :: quote x.s else []) ++ nPart e.2.m x.n))
def runP : List Ac → Nat
  | [] => 0
  | x :: r => min 1000 ((r.takeWhile (· == x)).length + 1)
def many3 (n : Nat) (x : Ac) : Tx := wTimes ++ (32 :: (Lib.decDigits n ++ 10 :: (wordA x ++ 10 :: (wEnd ++ [10]))))
def printF : Nat → List Ac → Tx → Tx
  | 0, _, b => b
  | _ + 1, [], b => b
  | n + 1, x :: r, b => if 65536 < b.length then b
    else if runP (x :: r) < 3 then printF n r (b ++ (wordA x ++ [10]))
    else printF n ((x :: r).drop (runP (x :: r))) (b ++ many3 (runP (x :: r)) x)
def printP (l : List Ac) : Tx × Nat := if l.any (fun x => !rightA x) then ([], 1) else if 4096 < l.length then ([], 3) else
  if 65536 < (printF l.length l []).length then ([], 3) else (printF l.length l [], 0)

/-! ### A text in its marks -/
theorem hexI_D : ∀ i, i < 16 → hexI (hexD.getD i 0) = some i ∧ (hexD.getD i 0) ≠ 34 ∧ 32 ≤ (hexD.getD i 0).toNat ∧ (hexD.getD i 0).toNat ≤ 126 := by decide
theorem ofNat_self (c : UInt8) : UInt8.ofNat (16 * (c.toNat / 16) + c.toNat % 16) = c := by
  rw [Nat.div_add_mod]; simp
theorem step_quote (c : UInt8) (r : Tx) : (quoteB c ++ r).head? ≠ some 34 ∧ nib (quoteB c ++ r) = some (c, r) := by
  have ht : c.toNat < 256 := by have := c.toNat_lt; omega
  unfold quoteB
  split
  · rename_i h; subst h; exact ⟨by simp, rfl⟩
  · split
    · rename_i h; subst h; exact ⟨by simp, rfl⟩
    · split
      · rename_i h; subst h; exact ⟨by simp, rfl⟩
      · split
        · rename_i h; subst h; exact ⟨by simp, rfl⟩
        · split
          · have h1 := (hexI_D (c.toNat / 16) (by omega)).1
            have h2 := (hexI_D (c.toNat % 16) (by omega)).1
            refine ⟨by simp, ?_⟩
            simp only [List.cons_append, List.nil_append, nib, esc]
            rw [if_pos trivial, if_neg (by decide), if_neg (by decide), if_neg (by decide), if_neg (by decide), if_pos trivial, h1, h2]
            simp only
            rw [ofNat_self]
          · rename_i h1 h2 h3 h4 h5
            refine ⟨by simpa using h3, ?_⟩
            simp only [List.cons_append, List.nil_append, nib]
            rw [if_neg h4, if_pos (by omega)]
theorem scan_quote (s y : Tx) : scan (s.flatMap quoteB ++ 34 :: y) = some (s, y) := by
  induction s with
  | nil => exact scan_mark y
  | cons c s ih =>
    have h := step_quote c (s.flatMap quoteB ++ 34 :: y)
    rw [List.flatMap_cons, List.append_assoc, scan_step h.1 h.2, ih]; rfl
theorem textP_quote {s y : Tx} (hs : s.length ≤ 4096) (hy : y = [] ∨ y.head? = some 32) : textP (32 :: (quote s ++ y)) = some (s, y) := by
  have hb : bl (32 :: (quote s ++ y)) = quote s ++ y := by rw [bl_blank]; exact bl_word _ (by decide) (by decide)
  unfold textP
  rw [hb, if_pos (by rfl)]
  have : (quote s ++ y).tail = s.flatMap quoteB ++ 34 :: y := by simp [quote]
  rw [this, scan_quote]
  simp only
  rw [if_pos ⟨hs, hy⟩]
theorem quoteB_ok (c : UInt8) : ∀ a ∈ quoteB c, a ≠ 10 ∧ 32 ≤ a.toNat ∧ a.toNat ≤ 126 := by
  have ht : c.toNat < 256 := by have := c.toNat_lt; omega
  have key : ∀ a : UInt8, 32 ≤ a.toNat → a.toNat ≤ 126 → a ≠ 10 ∧ 32 ≤ a.toNat ∧ a.toNat ≤ 126 := fun a h1 h2 => ⟨by rintro rfl; simp at h1, h1, h2⟩
  unfold quoteB
  split
  · decide
  · split
    · decide
    · split
      · decide
      · split
        · decide
        · split
          · intro a ha
            simp only [List.mem_cons, List.not_mem_nil, or_false] at ha
            have h1 := hexI_D (c.toNat / 16) (by omega)
            have h2 := hexI_D (c.toNat % 16) (by omega)
            rcases ha with rfl | rfl | rfl | rfl
            · decide
            · decide
            · exact key _ h1.2.2.1 h1.2.2.2
            · exact key _ h2.2.2.1 h2.2.2.2
          · intro a ha
            simp only [List.mem_cons, List.not_mem_nil, or_false] at ha
            subst ha
            exact key _ (by omega) (by omega)
def okT (a : UInt8) : Prop := a = 10 ∨ (32 ≤ a.toNat ∧ a.toNat ≤ 126)
theorem quote_ok (s : Tx) : ∀ a ∈ quote s, a ≠ 10 ∧ 32 ≤ a.toNat ∧ a.toNat ≤ 126 := by
  intro a ha
  unfold quote at ha
  rcases List.mem_cons.1 ha with rfl | ha
  · decide
  · rcases List.mem_append.1 ha with h | h
    · obtain ⟨c, -, hc⟩ := List.mem_flatMap.1 h
      exact quoteB_ok c a hc
    · simp only [List.mem_cons, List.not_mem_nil, or_false] at h
      subst h; decide

/-! ### A right act's line -/
theorem shps_all : ∀ e ∈ shps, shp e.1 = some e.2 ∧ e.1 ≠ [] ∧ (∀ a ∈ e.1, a ≠ 32 ∧ a ≠ 10 ∧ 32 ≤ a.toNat ∧ a.toNat ≤ 126) ∧ e.1.head? ≠ some 35 ∧ e.1 ≠ wTimes ∧ e.1 ≠ wEnd ∧ (∀ m, e.2.m = some m → m ≤ 2147483647) := by
  intro e he
  simp only [shps, List.mem_cons, List.not_mem_nil, or_false] at he
  rcases he with rfl | rfl | rfl | rfl | rfl | rfl | rfl | rfl | rfl
  all_goals exact ⟨by decide, by decide, by decide, by decide, by decide, by decide, by intro m hm; cases hm <;> decide⟩
theorem kin_mem {k : Nat} {e : Tx × Shp} (h : kin k = some e) : e ∈ shps ∧ e.2.k = k := by
  unfold kin at h
  refine ⟨List.mem_of_find?_eq_some h, ?_⟩
  have := List.find?_some h
  simpa using this
theorem itoa_nat {n : Int} (h : 0 ≤ n) : Lib.itoa n = Lib.decDigits n.toNat := by
  obtain ⟨m, rfl⟩ := Int.eq_ofNat_of_zero_le h
  rw [Lib.itoa_nonneg]; rfl
theorem digits_ok (n : Nat) : ∀ a ∈ Lib.decDigits n, a ≠ 10 ∧ 32 ≤ a.toNat ∧ a.toNat ≤ 126 := fun a ha => by
  have := digit_ne a ha
  exact ⟨this.2.2.1, by omega, by omega⟩
def B2 (y : Tx) : Prop := y = [] ∨ y.head? = some 32
theorem act_take {x : Ac} {e : Tx × Shp} (hk : kin x.k = some e) (hr : rightA x = true) : ∃ y, wordA x = e.1 ++ y ∧ B2 y ∧ takeA e.2 y = some x ∧ ∀ a ∈ y, a ≠ 10 ∧ 32 ≤ a.toNat ∧ a.toNat ≤ 126 := by
  obtain ⟨hm, hkk⟩ := kin_mem hk
  have hall := shps_all e hm
  unfold rightA at hr
  rw [hk] at hr
  simp only [Bool.and_eq_true] at hr
  obtain ⟨⟨h1, h2⟩, h3⟩ := hr
  obtain ⟨w, k, c, s, m⟩ := e
  simp only at h1 h2 h3 hkk hall
  obtain ⟨xk, xc, xn, xs⟩ := x
  simp only at h1 h2 h3 hkk hk
  subst hkk
  unfold wordA
  simp only [hk]
  -- the number behind
  obtain ⟨yn, hyn, hyB, hyt, hyc⟩ : ∃ yn, nPart m xn = yn ∧ B2 yn ∧ (∃ n : Nat, (n : Int) = xn ∧ takeN ⟨k, c, s, m⟩ yn = some (n, [])) ∧ ∀ a ∈ yn, a ≠ 10 ∧ 32 ≤ a.toNat ∧ a.toNat ≤ 126 := by
    cases m with
    | none =>
      simp only at h3
      have : xn = 0 := by simpa using h3
      exact ⟨[], rfl, .inl rfl, ⟨0, by omega, rfl⟩, by simp⟩
    | some m =>
      simp only at h3
      obtain ⟨h4, h5⟩ := of_decide_eq_true h3
      have hw := digits_word xn.toNat (y := []) (.inl rfl)
      rw [List.append_nil] at hw
      refine ⟨_, rfl, .inr rfl, ⟨xn.toNat, by omega, ?_⟩, ?_⟩
      · simp only [takeN, nPart, itoa_nat h4]
        rw [hw.1, hw.2, numM_digits (by omega) (by have := hall.2.2.2.2.2.2 m rfl; omega)]; rfl
      · intro a ha
        simp only [nPart, itoa_nat h4] at ha
        rcases List.mem_cons.1 ha with rfl | ha
        · decide
        · exact digits_ok _ a ha
  rw [hyn]
  -- the text
  obtain ⟨ys, hys, hsB, hst, hsc⟩ : ∃ ys, (if s then 32 :: quote xs else []) ++ yn = ys ∧ B2 ys ∧ takeS ⟨k, c, s, m⟩ ys = some (xs, yn) ∧ ∀ a ∈ ys, a ≠ 10 ∧ 32 ≤ a.toNat ∧ a.toNat ≤ 126 := by
    cases s with
    | false =>
      have : xs = [] := by simpa using h2
      subst this
      exact ⟨yn, rfl, hyB, rfl, hyc⟩
    | true =>
      refine ⟨_, rfl, .inr rfl, ?_, ?_⟩
      · exact textP_quote (by simpa using h2) hyB
      · intro a ha
        simp only [if_true, List.cons_append, List.mem_cons, List.mem_append] at ha
        rcases ha with rfl | ha | ha
        · decide
        · exact quote_ok _ a ha
        · exact hyc a ha
  rw [hys]
  obtain ⟨yc, hyc', hcB, ⟨v, hv, hct⟩, hcc⟩ : ∃ yc, (if c then 32 :: Lib.itoa xc else []) ++ ys = yc ∧ B2 yc ∧ (∃ n : Nat, (n : Int) = xc ∧ takeC ⟨k, c, s, m⟩ yc = some (n, ys)) ∧ ∀ a ∈ yc, a ≠ 10 ∧ 32 ≤ a.toNat ∧ a.toNat ≤ 126 := by
    cases c with
    | false =>
      have : xc = 0 := by simpa using h1
      exact ⟨ys, rfl, hsB, ⟨0, by omega, rfl⟩, hsc⟩
    | true =>
      obtain ⟨h4, h5⟩ := of_decide_eq_true (by simpa using h1 : decide (0 ≤ xc ∧ xc < 8) = true)
      have hw := digits_word xc.toNat (y := ys) hsB
      refine ⟨_, rfl, .inr rfl, ⟨xc.toNat, by omega, ?_⟩, ?_⟩
      · rw [itoa_nat h4]
        simp only [takeC, if_true, List.cons_append]
        rw [hw.1, hw.2, numM_digits (by omega) (by omega)]; rfl
      · intro a ha
        rw [itoa_nat h4] at ha
        simp only [if_true, List.cons_append, List.mem_cons, List.mem_append] at ha
        rcases ha with rfl | ha | ha
        · decide
        · exact digits_ok _ a ha
        · exact hsc a ha
  obtain ⟨u, hu, hnt⟩ := hyt
  refine ⟨yc, by rw [← hyc'], hcB, ?_, hcc⟩
  unfold takeA
  rw [hct]; simp only
  rw [hst]; simp only
  rw [hnt]; simp only
  rw [if_pos (by rfl), hu, hv]
theorem act_line {x : Ac} (hr : rightA x = true) : (∀ b q n, lineP (b :: q) (wordA x) n = some (addB b [x] 1 1 :: q)) ∧ ∀ a ∈ wordA x, a ≠ 10 ∧ 32 ≤ a.toNat ∧ a.toNat ≤ 126 := by
  cases hk : kin x.k with
  | none => unfold rightA at hr; rw [hk] at hr; cases hr
  | some e =>
    obtain ⟨y, hw, hB, ht, hc⟩ := act_take hk hr
    obtain ⟨h1, h2, h3, h4, h5, h6, -⟩ := shps_all e (kin_mem hk).1
    have hwd := wd_word (y := y) h2 (fun a ha => (h3 a ha).1) h4 hB
    rw [hw]
    refine ⟨fun b q n => ?_, fun a ha => ?_⟩
    · unfold lineP
      rw [hwd.1, hwd.2, if_neg h2, if_neg h5, if_neg h6]
      have : actP e.1 y = some x := by unfold actP; rw [h1]; exact ht
      rw [this]
    · rcases List.mem_append.1 ha with h | h
      · exact (h3 a h).2
      · exact hc a h

/-! ### A list's -/
theorem addB_one {b : Blk} (x : Ac) (h : b.many + 1 ≤ 4096) : addB b [x] 1 1 = { b with l := b.l ++ [x], many := b.many + 1 } := by
  unfold addB
  rw [if_neg (by omega), if_neg (by omega), reps_one]
theorem addB_reps {b : Blk} (x : Ac) (n : Nat) (h : b.many + n ≤ 4096) (hn : 0 < n) : addB b [x] 1 n = { b with l := b.l ++ List.replicate n x, many := b.many + n } := by
  unfold addB
  rw [if_neg (by omega), if_neg (by omega), Nat.one_mul]
  have : reps n [x] = List.replicate n x := by
    clear h hn
    induction n with
    | zero => rfl
    | succ n ih => rw [reps_succ, ih]; rfl
  rw [this]
theorem run_spec (x : Ac) (r : List Ac) : ∃ q, x :: r = List.replicate (runP (x :: r)) x ++ q ∧ q = (x :: r).drop (runP (x :: r)) ∧ 0 < runP (x :: r) ∧ runP (x :: r) ≤ 1000 := by
  have hp : ∀ (r : List Ac), r.take (r.takeWhile (· == x)).length = List.replicate (r.takeWhile (· == x)).length x := by
    intro r
    induction r with
    | nil => rfl
    | cons y r ih =>
      by_cases h : y = x
      · subst h; simp [List.replicate_succ, ih]
      · have : (y == x) = false := by simpa using h
        simp [this]
  refine ⟨_, ?_, rfl, by simp only [runP]; omega, by simp only [runP]; omega⟩
  have h1 : (x :: r).take ((r.takeWhile (· == x)).length + 1) = List.replicate ((r.takeWhile (· == x)).length + 1) x := by
    rw [List.take_succ_cons, hp]; rfl
  have h2 : (x :: r).take (runP (x :: r)) = List.replicate (runP (x :: r)) x := by
    have := congrArg (List.take (runP (x :: r))) h1
    have hle : runP (x :: r) ≤ (r.takeWhile (· == x)).length + 1 := by simp only [runP]; omega
    rw [List.take_take, List.take_replicate, Nat.min_eq_left hle] at this
    exact this
  rw [← h2, List.take_append_drop]
theorem printF_long (n : Nat) (l : List Ac) (b : Tx) (h : 65536 < b.length) : printF n l b = b := by
  cases n with
  | zero => rfl
  | succ n => cases l with
    | nil => rfl
    | cons x r => unfold printF; rw [if_pos h]
theorem print_go : ∀ (n : Nat) (l : List Ac) (b : Tx), l.length ≤ n → (∀ x ∈ l, rightA x = true) → (printF n l b).length ≤ 65536 →
    ∃ o ls, printF n l b = b ++ o ∧ (∀ a ∈ o, okT a) ∧ (l = [] → o = []) ∧ (l ≠ [] → ∃ p, o = p ++ [10]) ∧ (∀ y, lns (o ++ y) = ls ++ lns y) ∧
      ∀ i (k : Blk), k.many + l.length ≤ 4096 → goP ls i [k] = .ok [{ k with l := k.l ++ l, many := k.many + l.length }]
  | 0, [], b, _, _, _ => ⟨[], [], by simp [printF], by simp, fun _ => rfl, fun h => absurd rfl h, fun y => rfl, fun i k _ => by simp [goP]⟩
  | 0, x :: r, b, h, _, _ => by simp at h
  | n + 1, [], b, _, _, _ => ⟨[], [], by simp [printF], by simp, fun _ => rfl, fun h => absurd rfl h, fun y => rfl, fun i k _ => by simp [goP]⟩
  | n + 1, x :: r, b, hn, hr, hlen => by
    have hx := act_line (hr x (by simp))
    have hx10 : ∀ a ∈ wordA x, a ≠ 10 := fun a ha => (hx.2 a ha).1
    have hb : b.length ≤ 65536 := by
      refine Nat.le_of_not_lt fun h => ?_
      rw [printF_long _ _ _ h] at hlen; omega
    unfold printF at hlen ⊢
    rw [if_neg (by omega)] at hlen ⊢
    by_cases h3 : runP (x :: r) < 3
    · rw [if_pos h3] at hlen ⊢
      obtain ⟨o, ls, ho, hc, h0, h1, hl, hg⟩ := print_go n r _ (by simp at hn; omega) (fun y hy => hr y (by simp [hy])) hlen
      refine ⟨wordA x ++ [10] ++ o, wordA x :: ls, by rw [ho]; simp, ?_, fun h => by simp at h, fun _ => ?_, fun y => ?_, fun i k hk => ?_⟩
      · intro a ha
        rcases List.mem_append.1 ha with h | h
        · rcases List.mem_append.1 h with h | h
          · exact .inr (hx.2 a h).2
          · simp at h; exact .inl h
        · exact hc a h
      · cases r with
        | nil => exact ⟨wordA x, by rw [h0 rfl]; simp⟩
        | cons y r =>
          obtain ⟨p, hp⟩ := h1 (by simp)
          exact ⟨wordA x ++ [10] ++ p, by rw [hp]; simp⟩
      · rw [show wordA x ++ [10] ++ o ++ y = wordA x ++ 10 :: (o ++ y) from by simp, lns_at, hl, lns_none _ hx10]; rfl
      · simp only [List.length_cons] at hk
        simp only [goP, hx.1]
        rw [addB_one x (by omega), hg _ _ (by simp only; omega)]
        simp only [List.append_assoc, List.cons_append, List.nil_append, List.length_cons]
        rw [show k.many + 1 + r.length = k.many + (r.length + 1) from by omega]
    · rw [if_neg h3] at hlen ⊢
      obtain ⟨q, hq, hqd, hp0, hp1⟩ := run_spec x r
      generalize runP (x :: r) = m at *
      rw [← hqd] at hlen ⊢
      have hql : (x :: r).length = m + q.length := by rw [hq]; simp
      obtain ⟨o, ls, ho, hc, h0, h1, hl, hg⟩ := print_go n q _ (by simp at hn hql; omega) (fun y hy => hr y (by rw [hq]; simp [hy])) hlen
      refine ⟨many3 m x ++ o, (wTimes ++ 32 :: Lib.decDigits m) :: wordA x :: wEnd :: ls, by rw [ho]; simp, ?_, fun h => by simp at h, fun _ => ?_, fun y => ?_, fun i k hk => ?_⟩
      · intro a ha
        unfold many3 at ha
        have hw : ∀ a ∈ wTimes, okT a := by unfold okT; decide
        have he : ∀ a ∈ wEnd ++ [10], okT a := by unfold okT; decide
        rcases List.mem_append.1 ha with h | h
        · rcases List.mem_append.1 h with h | h
          · exact hw a h
          · rcases List.mem_cons.1 h with rfl | h
            · unfold okT; decide
            · rcases List.mem_append.1 h with h | h
              · exact .inr (digits_ok _ a h).2
              · rcases List.mem_cons.1 h with rfl | h
                · exact .inl rfl
                · rcases List.mem_append.1 h with h | h
                  · exact .inr (hx.2 a h).2
                  · rcases List.mem_cons.1 h with rfl | h
                    · exact .inl rfl
                    · exact he a h
        · exact hc a h
      · cases q with
        | nil => exact ⟨wTimes ++ (32 :: (Lib.decDigits m ++ 10 :: (wordA x ++ 10 :: wEnd))), by rw [h0 rfl]; simp [many3]⟩
        | cons y q =>
          obtain ⟨p, hp⟩ := h1 (by simp)
          exact ⟨many3 m x ++ p, by rw [hp]; simp⟩
      · unfold many3
        rw [show wTimes ++ (32 :: (Lib.decDigits m ++ 10 :: (wordA x ++ 10 :: (wEnd ++ [10])))) ++ o ++ y = (wTimes ++ 32 :: Lib.decDigits m) ++ 10 :: (wordA x ++ 10 :: (wEnd ++ 10 :: (o ++ y))) from by simp,
          lns_at, lns_at, lns_at, hl, lns_none _ hx10, lns_none wEnd (by decide), lns_none]
        · rfl
        · intro a ha
          rcases List.mem_append.1 ha with h | h
          · exact (by decide : ∀ a ∈ wTimes, a ≠ 10) a h
          · rcases List.mem_cons.1 h with rfl | h
            · decide
            · exact (digit_ne a h).2.2.1
      · rw [hql] at hk
        simp only [goP, times_line hp1 (show [k].length ≤ 8 by simp), hx.1, addB_one (b := ⟨[], 0, m, i + 1⟩) x (by simp), end_line]
        rw [show ([] : List Ac) ++ [x] = [x] from rfl, show (0 : Nat) + 1 = 1 from rfl, addB_reps x m (by omega) hp0, hg _ _ (by simp only; omega), hql, hq]
        simp only [List.append_assoc]
        rw [show k.many + m + q.length = k.many + (m + q.length) from by omega]
theorem back_law (l : List Ac) : ((printP l).2 = 0 → (parseP (printP l).1 = (l, 0, 0) ∧ (∀ a ∈ (printP l).1, okT a) ∧ (printP l).1.length ≤ 65536 ∧ (l = [] ∨ ∃ p, (printP l).1 = p ++ [10]))) ∧
    ((printP l).2 ≠ 0 → (printP l).1 = [] ∧ l ≠ []) := by
  unfold printP
  by_cases h1 : l.any (fun x => !rightA x) = true
  · rw [if_pos h1]
    exact ⟨fun h => by simp at h, fun _ => ⟨rfl, by rintro rfl; simp at h1⟩⟩
  · rw [if_neg h1]
    by_cases h2 : 4096 < l.length
    · rw [if_pos h2]
      exact ⟨fun h => by simp at h, fun _ => ⟨rfl, by rintro rfl; simp at h2⟩⟩
    · rw [if_neg h2]
      by_cases h3 : 65536 < (printF l.length l []).length
      · rw [if_pos h3]
        refine ⟨fun h => by simp at h, fun _ => ⟨rfl, ?_⟩⟩
        rintro rfl
        simp [printF] at h3
      · rw [if_neg h3]
        refine ⟨fun _ => ?_, fun h => absurd rfl h⟩
        have hr : ∀ x ∈ l, rightA x = true := fun x hx => by
          cases h : rightA x with
          | true => rfl
          | false => exact absurd (List.any_eq_true.2 ⟨x, hx, by rw [h]; rfl⟩) h1
        obtain ⟨o, ls, ho, hc, h0, h4, hl, hg⟩ := print_go l.length l [] (Nat.le_refl _) hr (by omega)
        rw [List.nil_append] at ho
        rw [ho] at h3 ⊢
        refine ⟨?_, hc, by simpa using h3, ?_⟩
        · have h5 := hl []
          rw [List.append_nil] at h5
          unfold parseP
          rw [if_neg (by simpa using h3), h5, goP_append]
          have := hg 0 ⟨[], 0, 0, 0⟩ (by simp only; omega)
          unfold st0
          rw [this]
          simp only [lns, goP, lineP_nil, finP, List.nil_append, Nat.zero_add]
          rw [if_neg h2]
        · by_cases hl0 : l = []
          · exact .inl hl0
          · exact .inr (h4 hl0)
end Go.Proofs.YtcjlbimmplejjaaGreatDoor.ScB
