/-
  Words of lines; what stands between times and end is done so often. No program is named here.
-/
import Derived.Test.YtcjlbimmplejjaaGreatDoorScQ
namespace Go.Proofs.YtcjlbimmplejjaaGreatDoor.ScT
open Go Go.Proofs.YtcjlbimmplejjaaGreatDoor.WdP Go.Proofs.YtcjlbimmplejjaaGreatDoor.ScP Go.Proofs.YtcjlbimmplejjaaGreatDoor.ScQ

/-! ### Words of lines -/
theorem bl_blank (r : Tx) : bl (32 :: r) = bl r := by simp [bl]
theorem bl_word {c : UInt8} (r : Tx) (h1 : c ≠ 32) (h2 : c ≠ 35) : bl (c :: r) = c :: r := by
  have hb : (c == 32) = false := by simpa using h1
  simp [bl, hb, h2]
theorem bl_hash (r : Tx) : bl (35 :: r) = [] := by
  have hb : ((35 : UInt8) == 32) = false := by decide
  simp [bl, hb]
theorem take_ne {x y : Tx} (h : ∀ a ∈ x, a ≠ 32) (hy : y = [] ∨ y.head? = some 32) : (x ++ y).takeWhile (· != 32) = x ∧ (x ++ y).dropWhile (· != 32) = y := by
  induction x with
  | nil =>
    rcases hy with rfl | hy
    · exact ⟨rfl, rfl⟩
    · cases y with
      | nil => cases hy
      | cons c r => cases hy; exact ⟨rfl, rfl⟩
  | cons c x ih =>
    have := ih fun a ha => h a (by simp [ha])
    have hc : (c != 32) = true := by simpa using h c (by simp)
    simp only [List.cons_append, List.takeWhile_cons, List.dropWhile_cons, hc, if_true, this.1, this.2, and_self]
theorem wd_word {x y : Tx} (hne : x ≠ []) (h : ∀ a ∈ x, a ≠ 32) (h35 : x.head? ≠ some 35) (hy : y = [] ∨ y.head? = some 32) : wd (x ++ y) = x ∧ rs (x ++ y) = y := by
  cases x with
  | nil => exact absurd rfl hne
  | cons c r =>
    have hb : bl (c :: r ++ y) = c :: r ++ y := bl_word _ (h c (by simp)) (by simpa using h35)
    unfold wd rs
    rw [hb]
    exact take_ne h hy
theorem wd_blank (s : Tx) : wd (32 :: s) = wd s ∧ rs (32 :: s) = rs s := by unfold wd rs; rw [bl_blank]; exact ⟨rfl, rfl⟩
theorem digit_ne {n : Nat} : ∀ a ∈ Lib.decDigits n, a ≠ 32 ∧ a ≠ 35 ∧ a ≠ 10 ∧ a ≠ 34 ∧ 48 ≤ a.toNat ∧ a.toNat ≤ 57 := by
  induction n using Nat.strongRecOn with
  | ind n ih =>
    intro a ha
    have key : ∀ d : Nat, d < 10 → a = UInt8.ofNat (48 + d) → a ≠ 32 ∧ a ≠ 35 ∧ a ≠ 10 ∧ a ≠ 34 ∧ 48 ≤ a.toNat ∧ a.toNat ≤ 57 := by
      intro d hd e
      have ht : a.toNat = 48 + d := by rw [e]; exact digit_toNat hd
      refine ⟨?_, ?_, ?_, ?_, by omega, by omega⟩ <;> (rintro rfl; simp at ht; omega)
    by_cases hn : n < 10
    · rw [Lib.decDigits_one hn] at ha
      exact key n hn (by simpa using ha)
    · rw [decDigits_big hn] at ha
      rcases List.mem_append.1 ha with h | h
      · exact ih (n / 10) (by omega) a h
      · exact key (n % 10) (by omega) (by simpa using h)
theorem digits_ne (n : Nat) : Lib.decDigits n ≠ [] := by
  by_cases hn : n < 10
  · rw [Lib.decDigits_one hn]; simp
  · rw [decDigits_big hn]; simp
theorem digits_word (n : Nat) {y : Tx} (hy : y = [] ∨ y.head? = some 32) : wd (32 :: (Lib.decDigits n ++ y)) = Lib.decDigits n ∧ rs (32 :: (Lib.decDigits n ++ y)) = y := by
  rw [(wd_blank _).1, (wd_blank _).2]
  refine wd_word (digits_ne n) (fun a ha => (digit_ne a ha).1) ?_ hy
  cases h : Lib.decDigits n with
  | nil => exact absurd h (digits_ne n)
  | cons c r =>
    simp only [List.head?_cons, ne_eq, Option.some.injEq]
    exact (digit_ne c (by rw [h]; simp)).2.1
theorem numM_digits {most n : Nat} (h : n ≤ most) (hm : most ≤ 4611686018427387904) : numM most (Lib.decDigits n) = some n := by
  unfold numM
  rw [num_dec n (by omega)]
  simp [h]

/-! ### How the blocks stand -/
structure OkB (b : Blk) : Prop where
  len : b.many ≤ 4096 → b.l.length = b.many
  most : b.many ≤ 4097
  nil : 4096 < b.many → b.l = []
  times : b.times ≤ 1000
theorem reps_len (n : Nat) (l : List Ac) : (reps n l).length = n * l.length := by simp [reps]
theorem reps_zero (l : List Ac) : reps 0 l = [] := rfl
theorem reps_succ (n : Nat) (l : List Ac) : reps (n + 1) l = l ++ reps n l := by simp [reps, List.replicate_succ]
theorem reps_nil (n : Nat) : reps n [] = [] := by
  induction n with
  | zero => rfl
  | succ n ih => rw [reps_succ, ih]; rfl
theorem reps_one (l : List Ac) : reps 1 l = l := by simp [reps]
theorem reps_get (l : List Ac) (n i : Nat) (h : i < n * l.length) : (reps n l)[i]? = l[i % l.length]? := by
  induction n generalizing i with
  | zero => omega
  | succ n ih =>
    rw [reps_succ]
    by_cases hi : i < l.length
    · rw [List.getElem?_append_left hi, Nat.mod_eq_of_lt hi]
    · rw [List.getElem?_append_right (by omega), ih _ (by rw [Nat.succ_mul] at h; omega)]
      congr 1
      have := Nat.add_mod_right (i - l.length) l.length
      rw [Nat.sub_add_cancel (by omega)] at this
      exact this.symm
theorem addB_ok {b : Blk} {l : List Ac} {m t : Nat} (h : OkB b) (hm : m ≤ 4096 → l.length = m) : OkB (addB b l m t) := by
  unfold addB
  split
  · exact h
  · split
    · exact ⟨fun h1 => by simp at h1, by simp, fun _ => rfl, h.times⟩
    · rename_i h1 h2
      have h3 : m ≤ 4096 := by omega
      have h4 : b.many ≤ 4096 := by
        have : 0 < m * t := Nat.mul_pos (by omega) (by omega)
        omega
      refine ⟨fun h5 => ?_, ?_, fun h5 => ?_, h.times⟩
      · simp only at h5 ⊢
        rw [List.length_append, reps_len, h.len h4, hm h3, Nat.mul_comm]
      · simp only; omega
      · simp only at h5; omega
structure SInv (st : List Blk) (i : Nat) : Prop where
  ok : ∀ b ∈ st, OkB b
  at' : ∀ b ∈ st, b.line ≤ i
  down : st.Pairwise fun b c => c.line < b.line
theorem numM_le {m n : Nat} {w : Tx} (h : numM m w = some n) : n ≤ m := by
  unfold numM at h
  cases hn : num w with
  | none => rw [hn] at h; cases h
  | some v =>
    rw [hn] at h
    simp only [Option.bind_some] at h
    split at h
    · cases h; assumption
    · cases h
theorem pair_top {b b' : Blk} {q : List Blk} (h : b'.line = b.line) (hp : (b :: q).Pairwise fun b c => c.line < b.line) : (b' :: q).Pairwise fun b c => c.line < b.line := by
  rw [List.pairwise_cons] at hp ⊢
  exact ⟨fun c hc => by rw [h]; exact hp.1 c hc, hp.2⟩
theorem sinv_line {st : List Blk} {s : Tx} {i : Nat} {st' : List Blk} (hS : SInv st i) (h : lineP st s (i + 1) = some st') : SInv st' (i + 1) := by
  rcases lineP_cases h with ⟨-, rfl⟩ | ⟨-, t, ht, -, -, rfl⟩ | ⟨-, -, b, c, q, rfl, rfl⟩ | ⟨-, -, -, x, b, q, -, rfl, rfl⟩
  · exact ⟨hS.ok, fun b hb => by have := hS.at' b hb; omega, hS.down⟩
  · refine ⟨fun b hb => ?_, fun b hb => ?_, ?_⟩
    · rcases List.mem_cons.1 hb with rfl | hb
      · exact ⟨fun _ => rfl, by simp, fun h => by simp at h, numM_le ht⟩
      · exact hS.ok b hb
    · rcases List.mem_cons.1 hb with rfl | hb
      · exact Nat.le_refl _
      · have := hS.at' b hb; omega
    · rw [List.pairwise_cons]
      exact ⟨fun c hc => by have := hS.at' c hc; simp only; omega, hS.down⟩
  · have hb := hS.ok b (by simp)
    have hc := hS.ok c (by simp)
    have hd := (List.pairwise_cons.1 hS.down).2
    refine ⟨fun d hm => ?_, fun d hm => ?_, pair_top (addB_times _ _ _ _).2 hd⟩
    · rcases List.mem_cons.1 hm with rfl | hm
      · exact addB_ok hc hb.len
      · exact hS.ok d (by simp [hm])
    · rcases List.mem_cons.1 hm with rfl | hm
      · rw [(addB_times _ _ _ _).2]; have := hS.at' c (by simp); omega
      · have := hS.at' d (by simp [hm]); omega
  · have hb := hS.ok b (by simp)
    refine ⟨fun d hm => ?_, fun d hm => ?_, pair_top (addB_times _ _ _ _).2 hS.down⟩
    · rcases List.mem_cons.1 hm with rfl | hm
      · exact addB_ok hb fun _ => rfl
      · exact hS.ok d (by simp [hm])
    · rcases List.mem_cons.1 hm with rfl | hm
      · rw [(addB_times _ _ _ _).2]; have := hS.at' b (by simp); omega
      · have := hS.at' d (by simp [hm]); omega
theorem sinv_go : ∀ (l : List Tx) (i : Nat) (st st' : List Blk), SInv st i → goP l i st = .ok st' → SInv st' (i + l.length)
  | [], i, st, st', hS, h => by simp [goP] at h; subst h; exact hS
  | s :: l, i, st, st', hS, h => by
    simp only [goP] at h
    split at h
    · cases h
    · rename_i s1 h1
      have := sinv_go l (i + 1) s1 st' (sinv_line hS h1) h
      rw [List.length_cons, show i + (l.length + 1) = i + 1 + l.length from by omega]
      exact this
theorem sinv0 : SInv st0 0 := ⟨fun b hb => by simp [st0] at hb; subst hb; exact ⟨fun _ => rfl, by simp, fun h => by simp at h, by simp⟩, fun b hb => by simp [st0] at hb; subst hb; exact Nat.le_refl _, by simp [st0]⟩

/-! ### Times -/
def timesT (k : Nat) (t : Tx) : Tx := wTimes ++ 32 :: (Lib.decDigits k ++ 10 :: (t ++ 10 :: wEnd))
theorem times_line {k n : Nat} (hk : k ≤ 1000) {st : List Blk} (hst : st.length ≤ 8) : lineP st (wTimes ++ 32 :: Lib.decDigits k) n = some (⟨[], 0, k, n⟩ :: st) := by
  have h1 := wd_word (x := wTimes) (y := 32 :: Lib.decDigits k) (by decide) (by decide) (by decide) (.inr rfl)
  have h2 := digits_word k (y := []) (.inl rfl)
  rw [List.append_nil] at h2
  unfold lineP
  rw [h1.1, h1.2, if_neg (by decide), if_pos rfl, h2.1, h2.2, numM_digits hk (by omega)]
  simp only
  rw [if_pos ⟨rfl, hst⟩]
theorem end_line {n : Nat} (b c : Blk) (q : List Blk) : lineP (b :: c :: q) wEnd n = some (addB c b.l b.many b.times :: q) := by
  have h1 := wd_word (x := wEnd) (y := []) (by decide) (by decide) (by decide) (.inl rfl)
  rw [List.append_nil] at h1
  unfold lineP
  rw [h1.1, h1.2, if_neg (by decide), if_neg (by decide), if_pos rfl]
  simp only
  rw [if_pos (by rfl)]
theorem times_lns (k : Nat) (t : Tx) : lns (timesT k t) = (wTimes ++ 32 :: Lib.decDigits k) :: (lns t ++ [wEnd]) := by
  unfold timesT
  rw [show wTimes ++ 32 :: (Lib.decDigits k ++ 10 :: (t ++ 10 :: wEnd)) = (wTimes ++ 32 :: Lib.decDigits k) ++ 10 :: (t ++ 10 :: wEnd) from by simp, lns_at, lns_at, lns_none wEnd (by decide), lns_none]
  · rfl
  · intro a ha
    rcases List.mem_append.1 ha with h | h
    · exact (by decide : ∀ a ∈ wTimes, a ≠ 10) a h
    · rcases List.mem_cons.1 h with rfl | h
      · decide
      · exact (digit_ne a h).2.2.1
theorem times_go {k : Nat} (hk : k ≤ 1000) (t : Tx) : goP (lns (timesT k t)) 0 st0 = match goP (lns t) 1 (emb k st0) with | .error n => .error n | .ok s => goP [wEnd] (1 + (lns t).length) s := by
  rw [times_lns, goP, times_line hk (by decide)]
  exact goP_append _ _ _ _
theorem times_law {t : Tx} {k : Nat} (hk : k ≤ 1000) (ht : t.length ≤ 2000) (hc : tcount (lns t) ≤ 7) (hu : (timesT k t).length ≤ 65536) {l : List Ac} {line e : Nat} (hp : parseP t = (l, line, e)) :
    (e = 0 ∧ line = 0 ∧ ((4096 < l.length * k ∧ parseP (timesT k t) = ([], 0, 3)) ∨ (l.length * k ≤ 4096 ∧ parseP (timesT k t) = (reps k l, 0, 0)))) ∨
    (e = 3 ∧ ((0 < k ∧ parseP (timesT k t) = ([], 0, 3)) ∨ (k = 0 ∧ parseP (timesT k t) = ([], 0, 0)))) ∨
    (e = 11 ∧ ∃ a, a ≤ line ∧ parseP (timesT k t) = ([], a, 11)) ∨
    (e = 8 ∧ ((∃ j x, line = j + 1 ∧ (lns t)[j]? = some x ∧ wd x = wEnd) ∨ parseP (timesT k t) = ([], line + 1, 8))) := by
  have hgo := times_go hk t
  obtain ⟨hA, hB⟩ := emb_go k (lns t) 0 st0 (by simp [st0]) (by simp [st0]; omega)
  unfold parseP at hp
  rw [if_neg (by omega)] at hp
  have hpu : parseP (timesT k t) = finP (goP (lns (timesT k t)) 0 st0) := by unfold parseP; rw [if_neg (by omega)]
  cases hg : goP (lns t) 0 st0 with
  | error n =>
    rw [hg] at hp
    simp only [finP, Prod.mk.injEq] at hp
    obtain ⟨-, rfl, rfl⟩ := hp
    refine .inr (.inr (.inr ⟨rfl, ?_⟩))
    rcases hB n hg with ⟨j, x, h1, h2, h3⟩ | h1
    · exact .inl ⟨j, x, by omega, h2, h3⟩
    · right
      rw [hpu, hgo, h1]; rfl
  | ok st =>
    have hS := sinv_go _ _ _ _ sinv0 hg
    have hA1 := hA st hg
    have hne := goP_ne _ _ _ _ hg (by simp [st0])
    rw [hg] at hp
    rw [hA1] at hgo
    match st, hne with
    | [b], _ =>
      have hb := hS.ok b (by simp)
      have hlast : goP (lns (timesT k t)) 0 st0 = .ok [addB ⟨[], 0, 0, 0⟩ b.l b.many k] := by
        rw [hgo]; simp only [emb, goP, end_line]
      rw [hlast] at hpu
      simp only [finP] at hp
      split at hp
      · rename_i h4
        cases hp
        refine .inr (.inl ⟨rfl, ?_⟩)
        by_cases hk0 : k = 0
        · right
          refine ⟨hk0, ?_⟩
          rw [hpu, hk0, addB, if_pos (.inr rfl)]; rfl
        · left
          refine ⟨by omega, ?_⟩
          rw [hpu, addB, if_neg (by omega), if_pos (.inl h4)]; rfl
      · rename_i h4
        cases hp
        refine .inl ⟨rfl, rfl, ?_⟩
        have hlen := hb.len (by omega)
        by_cases h0 : b.many = 0 ∨ k = 0
        · right
          have hz : b.l.length * k = 0 := by
            rcases h0 with h | h
            · rw [hlen, h]; simp
            · rw [h]; simp
          refine ⟨by omega, ?_⟩
          rw [hpu, addB, if_pos h0]
          have : reps k b.l = [] := List.eq_nil_of_length_eq_zero (by rw [reps_len, Nat.mul_comm]; exact hz)
          rw [this]; rfl
        · by_cases h5 : 4096 < b.many * k
          · left
            refine ⟨by rw [hlen]; exact h5, ?_⟩
            rw [hpu, addB, if_neg h0, if_pos (.inr (by simpa using h5))]; rfl
          · right
            refine ⟨by rw [hlen]; omega, ?_⟩
            rw [hpu, addB, if_neg h0, if_neg (by simp; omega)]
            simp only [finP, List.nil_append, Nat.zero_add]
            rw [if_neg h5]
    | b :: c :: q, _ =>
      simp only [finP, Prod.mk.injEq] at hp
      obtain ⟨-, rfl, rfl⟩ := hp
      refine .inr (.inr (.inl ⟨rfl, ?_⟩))
      have hlt : c.line < b.line := (List.pairwise_cons.1 hS.down).1 c (by simp)
      rw [hpu, hgo, emb_cons k b (by simp)]
      cases q with
      | nil =>
        refine ⟨1, by omega, ?_⟩
        simp only [emb, goP, end_line, finP, (addB_times _ _ _ _).2]
      | cons d q =>
        refine ⟨c.line + 1, by omega, ?_⟩
        obtain ⟨x, y, r, he, hr, -⟩ := emb_head k d q
        simp only [emb_cons k c (List.cons_ne_nil d q), goP, end_line, he, finP, (addB_times _ _ _ _).2]
end Go.Proofs.YtcjlbimmplejjaaGreatDoor.ScT
