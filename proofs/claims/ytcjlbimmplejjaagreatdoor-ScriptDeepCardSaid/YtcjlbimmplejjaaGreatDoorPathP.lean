namespace Go.Proofs.YtcjlbimmplejjaaGreatDoor.PathP

def alnum (c : UInt8) : Bool := (97 ≤ c && c ≤ 122) || (65 ≤ c && c ≤ 90) || (48 ≤ c && c ≤ 57)
def marks : List UInt8 := [45, 46, 95, 126, 33, 36, 38, 39, 40, 41, 42, 43, 44, 59, 61, 58, 64, 47]
def okC (more : List UInt8) (c : UInt8) : Bool := alnum c || (marks ++ more).contains c
def hexs : List UInt8 := [48, 49, 50, 51, 52, 53, 54, 55, 56, 57, 97, 98, 99, 100, 101, 102, 65, 66, 67, 68, 69, 70]
def isHex (c : UInt8) : Bool := hexs.contains c
/-- Made of a path's characters and some more. -/
def plainB (more : List UInt8) : List UInt8 → Bool
  | [] => true
  | [c] => okC more c
  | [c, d] => okC more c && okC more d
  | c :: a :: b :: r => if okC more c then plainB more (a :: b :: r) else c == 37 && isHex a && isHex b && plainB more r

theorem plainB_ok (more : List UInt8) (c : UInt8) (r : List UInt8) (h : okC more c = true) : plainB more (c :: r) = plainB more r := by
  match r with
  | [] => simp [plainB, h]
  | [d] => simp [plainB, h]
  | a :: b :: r => simp [plainB, h]
theorem plainB_pct (more : List UInt8) (a b : UInt8) (r : List UInt8) (h37 : okC more 37 = false) (ha : isHex a = true) (hb : isHex b = true) : plainB more (37 :: a :: b :: r) = plainB more r := by
  simp [plainB, h37, ha, hb]
theorem plainB_no (more : List UInt8) (c : UInt8) (r : List UInt8) (h : okC more c = false) (h2 : c ≠ 37 ∨ r.length < 2 ∨ isHex (r.getD 0 0) = false ∨ isHex (r.getD 1 0) = false) : plainB more (c :: r) = false := by
  match r with
  | [] => simp [plainB, h]
  | [d] => simp [plainB, h]
  | a :: b :: r =>
    simp only [plainB, h]
    rcases h2 with h2 | h2 | h2 | h2
    · simp [h2]
    · simp at h2; omega
    · simp at h2; simp [h2]
    · simp at h2; simp [h2]

def cutQ (s : List UInt8) : List UInt8 × List UInt8 := (s.takeWhile (· != 63), (s.dropWhile (· != 63)).drop 1)
/-- What a target does. -/
def target (s : List UInt8) : Option (List UInt8 × List UInt8) :=
  if s.length ≤ 512 ∧ (cutQ s).1.head? = some 47 ∧ plainB [] (cutQ s).1 = true ∧ plainB [63] (cutQ s).2 = true then some (cutQ s) else none

theorem hex_ne (a : UInt8) (h : isHex a = true) : a ≠ 63 ∧ a ≠ 47 ∧ a ≠ 37 := by
  refine ⟨?_, ?_, ?_⟩ <;> (rintro rfl; exact absurd h (by decide))
theorem okC_63 (c : UInt8) (h : c ≠ 63) : okC [63] c = okC [] c := by
  unfold okC
  simp [h]
theorem plain_cut : ∀ (n : Nat) (s : List UInt8), s.length ≤ n → plainB [63] s = (plainB [] (cutQ s).1 && plainB [63] (cutQ s).2)
  | _, [], _ => rfl
  | 0, _ :: _, h => by simp at h
  | n + 1, c :: r, hn => by
    have hn' : r.length ≤ n := by simpa using hn
    by_cases h63 : c = 63
    · subst h63
      rw [plainB_ok [63] 63 r (by decide)]
      simp [cutQ, plainB]
    · have e1 : (cutQ (c :: r)).1 = c :: (cutQ r).1 := by simp [cutQ, h63]
      have e2 : (cutQ (c :: r)).2 = (cutQ r).2 := by simp [cutQ, h63]
      rw [e1, e2]
      cases hok : okC [] c
      · have hok2 := okC_63 c h63
        rw [hok] at hok2
        by_cases hp : c = 37 ∧ 2 ≤ r.length ∧ isHex (r.getD 0 0) = true ∧ isHex (r.getD 1 0) = true
        · obtain ⟨rfl, h2, ha, hb⟩ := hp
          match r, h2, hn' with
          | a :: b :: r, _, hn' =>
            simp only [List.getD_cons_zero, List.getD_cons_succ] at ha hb
            have e3 : (cutQ (a :: b :: r)).1 = a :: b :: (cutQ r).1 := by simp [cutQ, (hex_ne a ha).1, (hex_ne b hb).1]
            have e4 : (cutQ (a :: b :: r)).2 = (cutQ r).2 := by simp [cutQ, (hex_ne a ha).1, (hex_ne b hb).1]
            rw [plainB_pct [63] a b r (by decide) ha hb, e3, e4, plainB_pct [] a b _ (by decide) ha hb]
            exact plain_cut n r (by simp at hn'; omega)
        · rw [plainB_no [63] c r hok2 (by
            by_cases h1 : c = 37
            · by_cases h2 : 2 ≤ r.length
              · cases h3 : isHex (r.getD 0 0)
                · exact .inr (.inr (.inl rfl))
                · cases h4 : isHex (r.getD 1 0)
                  · exact .inr (.inr (.inr rfl))
                  · exact absurd ⟨h1, h2, h3, h4⟩ hp
              · exact .inr (.inl (by omega))
            · exact .inl h1)]
          rw [plainB_no [] c _ hok (by
            by_cases h1 : c = 37
            · right
              by_cases h2 : 2 ≤ (cutQ r).1.length
              · right
                have e5 : (cutQ r).1.getD 0 0 = r.getD 0 0 ∧ (cutQ r).1.getD 1 0 = r.getD 1 0 ∧ 2 ≤ r.length := by
                  match r with
                  | [] => simp [cutQ] at h2
                  | [a] =>
                    by_cases ha : a = 63
                    · simp [cutQ, ha] at h2
                    · simp [cutQ, ha] at h2
                  | a :: b :: q =>
                    by_cases ha : a = 63
                    · simp [cutQ, ha] at h2
                    · by_cases hb : b = 63
                      · simp [cutQ, ha, hb] at h2
                      · simp [cutQ, ha, hb]
                rw [e5.1, e5.2.1]
                cases h3 : isHex (r.getD 0 0)
                · exact .inl rfl
                · cases h4 : isHex (r.getD 1 0)
                  · exact .inr rfl
                  · exact absurd ⟨h1, e5.2.2, h3, h4⟩ hp
              · left; omega
            · exact .inl h1)]
          rfl
      · have hok2 := okC_63 c h63
        rw [hok] at hok2
        rw [plainB_ok _ _ _ hok2, plainB_ok _ _ _ hok]
        exact plain_cut n r hn'
/-- The plain one's: the same. -/
def rtarget (s : List UInt8) : Option (List UInt8 × List UInt8) := if s.length ≤ 512 ∧ s.head? = some 47 ∧ plainB [63] s = true then some (cutQ s) else none
theorem cutQ_head (s : List UInt8) : (cutQ s).1.head? = some 47 ↔ s.head? = some 47 := by
  cases s with
  | nil => simp [cutQ]
  | cons c r =>
    by_cases h : c = 63
    · simp [cutQ, h]
    · simp [cutQ, h]
theorem rtarget_eq (s : List UInt8) : rtarget s = target s := by
  unfold rtarget target
  rw [plain_cut s.length s (Nat.le_refl _)]
  simp only [cutQ_head, Bool.and_eq_true]

/-- The parts between the slashes. -/
def parts : List UInt8 → List (List UInt8)
  | [] => [[]]
  | c :: r => if c = 47 then [] :: parts r else match parts r with
    | x :: xs => (c :: x) :: xs
    | [] => [[c]]
theorem parts_ne (s : List UInt8) : ∃ x xs, parts s = x :: xs := by
  cases s with
  | nil => exact ⟨[], [], rfl⟩
  | cons c r =>
    unfold parts
    split
    · exact ⟨_, _, rfl⟩
    · split <;> exact ⟨_, _, rfl⟩
theorem parts_cons (c : UInt8) (r x : List UInt8) (xs : List (List UInt8)) (h : c ≠ 47) (hp : parts r = x :: xs) : parts (c :: r) = (c :: x) :: xs := by
  unfold parts
  rw [if_neg h, hp]
theorem parts_slash (r : List UInt8) : parts (47 :: r) = [] :: parts r := by
  show (if (47 : UInt8) = 47 then _ else _) = _
  rw [if_pos rfl]
/-- What a digit of 16 says. -/
def hexv (c : UInt8) : Nat := if c.toNat ≤ 57 then c.toNat - 48 else if c.toNat ≤ 70 then c.toNat - 55 else c.toNat - 87
theorem hexv_lt : ∀ c, isHex c = true → hexv c < 16 := by
  have : ∀ c ∈ hexs, hexv c < 16 := by decide
  intro c h
  exact this c (by simpa [isHex] using h)
/-- A part with its percent signs as bytes. -/
def unpct : List UInt8 → List UInt8
  | [] => []
  | [c] => [c]
  | [c, d] => [c, d]
  | c :: a :: b :: r => if c = 37 then UInt8.ofNat (hexv a * 16 + hexv b) :: unpct r else c :: unpct (a :: b :: r)
theorem unpct_cons (c : UInt8) (r : List UInt8) (h : c ≠ 37) : unpct (c :: r) = c :: unpct r := by
  match r with
  | [] => rfl
  | [d] => rfl
  | a :: b :: r => simp [unpct, h]
theorem unpct_pct (a b : UInt8) (r : List UInt8) : unpct (37 :: a :: b :: r) = UInt8.ofNat (hexv a * 16 + hexv b) :: unpct r := by simp [unpct]
/-- Each percent sign stands ahead of two digits. -/
def wfp : List UInt8 → Bool
  | [] => true
  | [c] => c != 37
  | [c, d] => c != 37 && d != 37
  | c :: a :: b :: r => if c = 37 then isHex a && isHex b && wfp r else wfp (a :: b :: r)
theorem wfp_cons (c : UInt8) (r : List UInt8) (h : c ≠ 37) : wfp (c :: r) = wfp r := by
  match r with
  | [] => simp [wfp, h]
  | [d] => simp [wfp, h]
  | a :: b :: r => simp [wfp, h]
theorem wfp_pct (r : List UInt8) (h : wfp (37 :: r) = true) : ∃ a b q, r = a :: b :: q ∧ isHex a = true ∧ isHex b = true ∧ wfp q = true := by
  match r, h with
  | [], h => simp [wfp] at h
  | [d], h => simp [wfp] at h
  | a :: b :: q, h => simp [wfp] at h; exact ⟨a, b, q, rfl, h.1.1, h.1.2, h.2⟩
theorem okC_ne (c : UInt8) (h : okC [] c = true) : c ≠ 37 ∧ c ≠ 63 := by
  refine ⟨?_, ?_⟩ <;> (rintro rfl; exact absurd h (by decide))
theorem plainB_wfp : ∀ (n : Nat) (s : List UInt8), s.length ≤ n → plainB [] s = true → wfp s = true
  | _, [], _, _ => rfl
  | 0, _ :: _, h, _ => by simp at h
  | n + 1, c :: r, hn, h => by
    cases hok : okC [] c
    · by_cases hp : c = 37 ∧ 2 ≤ r.length ∧ isHex (r.getD 0 0) = true ∧ isHex (r.getD 1 0) = true
      · obtain ⟨rfl, h2, ha, hb⟩ := hp
        match r, h2, hn, h with
        | a :: b :: r, _, hn, h =>
          simp only [List.getD_cons_zero, List.getD_cons_succ] at ha hb
          rw [plainB_pct [] a b r (by decide) ha hb] at h
          have ih := plainB_wfp n r (by simp at hn; omega) h
          simp [wfp, ha, hb, ih]
      · rw [plainB_no [] c r hok (by
          by_cases h1 : c = 37
          · by_cases h2 : 2 ≤ r.length
            · cases h3 : isHex (r.getD 0 0)
              · exact .inr (.inr (.inl rfl))
              · cases h4 : isHex (r.getD 1 0)
                · exact .inr (.inr (.inr rfl))
                · exact absurd ⟨h1, h2, h3, h4⟩ hp
            · exact .inr (.inl (by omega))
          · exact .inl h1)] at h
        cases h
    · rw [plainB_ok _ _ _ hok] at h
      rw [wfp_cons c r (okC_ne c hok).1]
      exact plainB_wfp n r (by simpa using hn) h

def may (s : List UInt8) : Bool := s != [46] && s != [46, 46] && !s.contains 47 && !s.contains 0
/-- A path, and no query. -/
def isPath (s : List UInt8) : Bool := match target s with
  | some (p, _) => p == s
  | none => false
theorem isPath_iff (s : List UInt8) : isPath s = true ↔ ∃ q, target s = some (s, q) := by
  unfold isPath
  split
  · rename_i p q h
    constructor
    · intro h1; exact ⟨q, by rw [h, beq_iff_eq.1 h1]⟩
    · rintro ⟨q', h2⟩; rw [h] at h2; cases h2; simp
  · rename_i h
    constructor
    · intro h1; cases h1
    · rintro ⟨q', h2⟩; rw [h] at h2; cases h2
/-- The segments of a path. -/
def segs (s : List UInt8) : Option (List (List UInt8)) :=
  if isPath s = true then (if ((parts (s.drop 1)).map unpct).all may then some ((parts (s.drop 1)).map unpct) else none) else none

/-- As the plain one goes. -/
def scan : List UInt8 → List UInt8 → Option (List (List UInt8))
  | [], seg => if may seg then some [seg] else none
  | [c], seg => if c = 47 then (if may seg then (scan [] []).map (seg :: ·) else none) else scan [] (seg ++ [c])
  | [c, d], seg => if c = 47 then (if may seg then (scan [d] []).map (seg :: ·) else none) else scan [d] (seg ++ [c])
  | c :: a :: b :: r, seg => if c = 47 then (if may seg then (scan (a :: b :: r) []).map (seg :: ·) else none)
    else if c = 37 then scan r (seg ++ [UInt8.ofNat (hexv a * 16 + hexv b)]) else scan (a :: b :: r) (seg ++ [c])
theorem scan_slash (r seg : List UInt8) : scan (47 :: r) seg = if may seg then (scan r []).map (seg :: ·) else none := by
  match r with
  | [] => simp [scan]
  | [d] => simp [scan]
  | a :: b :: r => simp [scan]
theorem scan_cons (c : UInt8) (r seg : List UInt8) (h : c ≠ 47) (h2 : c ≠ 37) : scan (c :: r) seg = scan r (seg ++ [c]) := by
  match r with
  | [] => simp [scan, h]
  | [d] => simp [scan, h]
  | a :: b :: r => simp [scan, h, h2]
theorem scan_pct (a b : UInt8) (r seg : List UInt8) : scan (37 :: a :: b :: r) seg = scan r (seg ++ [UInt8.ofNat (hexv a * 16 + hexv b)]) := by simp [scan]
def glue (seg : List UInt8) : List (List UInt8) → List (List UInt8)
  | [] => [seg]
  | x :: xs => (seg ++ x) :: xs
theorem scan_eq : ∀ (n : Nat) (r : List UInt8), r.length ≤ n → ∀ seg, wfp r = true → scan r seg = if (glue seg ((parts r).map unpct)).all may then some (glue seg ((parts r).map unpct)) else none
  | _, [], _, seg, _ => by simp [scan, parts, glue, unpct]
  | 0, _ :: _, h, _, _ => by simp at h
  | n + 1, c :: r, hn, seg, hw => by
    by_cases h47 : c = 47
    · subst h47
      rw [scan_slash, parts_slash]
      rw [wfp_cons _ _ (by decide)] at hw
      rw [scan_eq n r (by simpa using hn) [] hw]
      obtain ⟨x, xs, hx⟩ := parts_ne r
      rw [hx]
      simp only [List.map_cons, glue, List.nil_append, List.all_cons, unpct, List.append_nil]
      cases may seg <;> cases may (unpct x) <;> cases (List.map unpct xs).all may <;> simp
    · by_cases h37 : c = 37
      · subst h37
        obtain ⟨a, b, q, rfl, ha, hb, hq⟩ := wfp_pct r hw
        rw [scan_pct, scan_eq n q (by simp at hn; omega) _ hq]
        obtain ⟨x, xs, hx⟩ := parts_ne q
        have hpp : parts (37 :: a :: b :: q) = (37 :: a :: b :: x) :: xs := parts_cons _ _ _ _ (by decide) (parts_cons _ _ _ _ (hex_ne a ha).2.1 (parts_cons _ _ _ _ (hex_ne b hb).2.1 hx))
        rw [hpp, hx]
        simp only [List.map_cons, glue, unpct_pct, List.append_assoc, List.cons_append, List.nil_append]
      · rw [scan_cons c r seg h47 h37]
        rw [wfp_cons _ _ h37] at hw
        rw [scan_eq n r (by simpa using hn) _ hw]
        obtain ⟨x, xs, hx⟩ := parts_ne r
        rw [parts_cons _ _ _ _ h47 hx, hx]
        simp only [List.map_cons, glue, unpct_cons _ _ h37, List.append_assoc, List.cons_append, List.nil_append]
/-- The plain one's answer. -/
def rsegs (s : List UInt8) : Option (List (List UInt8)) := if isPath s = true then scan (s.drop 1) [] else none
theorem target_wfp {s q : List UInt8} (h : target s = some (s, q)) : plainB [] s = true ∧ s.head? = some 47 ∧ s.length ≤ 512 ∧ q = [] := by
  unfold target at h
  split at h
  · rename_i hc
    have he := Option.some.inj h
    have h1 : (cutQ s).1 = s := congrArg Prod.fst he
    have h2 : (cutQ s).2 = q := congrArg Prod.snd he
    refine ⟨by rw [← h1]; exact hc.2.2.1, by rw [← h1]; exact hc.2.1, hc.1, ?_⟩
    rw [← h2]
    have : s.dropWhile (· != 63) = [] := by
      have h3 := List.takeWhile_append_dropWhile (p := (· != 63)) (l := s)
      have h4 : s.takeWhile (· != 63) = s := h1
      rw [h4] at h3
      simpa using h3
    show (s.dropWhile (· != 63)).drop 1 = []
    rw [this]; rfl
  · cases h
theorem wfp_drop {s : List UInt8} (h : s.head? = some 47) (hw : wfp s = true) : wfp (s.drop 1) = true := by
  cases s with
  | nil => cases h
  | cons c r => simp at h; subst h; rw [wfp_cons _ _ (by decide)] at hw; exact hw
theorem rsegs_eq (s : List UInt8) : rsegs s = segs s := by
  unfold rsegs segs
  by_cases h : isPath s = true
  · rw [if_pos h, if_pos h]
    obtain ⟨q, hq⟩ := (isPath_iff s).1 h
    obtain ⟨h1, h2, h3, _⟩ := target_wfp hq
    rw [scan_eq _ _ (Nat.le_refl _) [] (wfp_drop h2 (plainB_wfp _ _ (Nat.le_refl _) h1))]
    obtain ⟨x, xs, hx⟩ := parts_ne (s.drop 1)
    rw [hx]
    simp [glue]
  · rw [if_neg h, if_neg h]

end Go.Proofs.YtcjlbimmplejjaaGreatDoor.PathP
