import Derived.Test.YtcjlbimmplejjaaGreatDoorScK
import Derived.Test.YtcjlbimmplejjaaGreatDoorGen
namespace Go.Proofs.YtcjlbimmplejjaaGreatDoor.ScNt
open Go Go.RowKit Go.Proofs Go.Proofs.YtcjlbimmplejjaaGreatDoor.Sep Go.Proofs.YtcjlbimmplejjaaGreatDoor.Reg Go.Proofs.YtcjlbimmplejjaaGreatDoor.Frame Go.Proofs.YtcjlbimmplejjaaGreatDoor.WdP Go.Proofs.YtcjlbimmplejjaaGreatDoor.WdT Go.Proofs.YtcjlbimmplejjaaGreatDoor.WdN Go.Proofs.YtcjlbimmplejjaaGreatDoor.ScP Go.Proofs.YtcjlbimmplejjaaGreatDoor.ScQ Go.Proofs.YtcjlbimmplejjaaGreatDoor.ScT
open Go.Proofs.YtcjlbimmplejjaaGreatDoor.PathL (split_at)

theorem contains_mem {c : UInt8} {s : Tx} : Lib.contains s [c] = true ↔ c ∈ s := by
  unfold Lib.contains
  rcases split_at c s with h | ⟨x, r, rfl, hx⟩
  · rw [PathL.index_none c s h]
    constructor
    · intro h; simp at h
    · intro hm; exact absurd rfl (h c hm)
  · rw [PathL.index_at c x r hx]
    simp
theorem contains_occ {sub s : Tx} {i : Nat} (hi : i ≤ s.length) (h : Lib.occAt s sub i = true) : Lib.contains s sub = true := by
  unfold Lib.contains
  rcases Lib.index_spec s sub with ⟨_, hn⟩ | ⟨j, hj, _⟩
  · rw [hn i hi] at h; cases h
  · rw [hj]; exact decide_eq_true (by omega)
theorem parse_line {t : Tx} {l : List Ac} {i e : Nat} (h : parseP t = (l, i, e)) : i ≤ t.length + 1 := by
  have hlen : (lns t).length ≤ t.length + 1 := (ScH.lns_le t).1
  unfold parseP at h
  split at h
  · simp at h; omega
  · cases hg : goP (lns t) 0 st0 with
    | error n =>
      rw [hg] at h
      simp only [finP, Prod.mk.injEq] at h
      obtain ⟨k, x, sk, hn, hx, -, -⟩ := goP_error _ _ _ _ hg
      have := (List.getElem?_eq_some_iff.1 hx).1
      omega
    | ok st =>
      rw [hg] at h
      have hs := sinv_go _ _ _ _ sinv0 hg
      match st, h, hs with
      | [], h, hs => simp [finP] at h; omega
      | [b], h, hs =>
        by_cases hb : 4096 < b.many <;> simp [finP, hb] at h <;> omega
      | b :: c :: q, h, hs =>
        simp [finP] at h
        have := hs.at' b (by simp)
        omega
/-- A line of a text, as it is gone through. -/
def nthW (line : Nat) : Tx → Nat → Tx → Tx
  | [], _, s => s
  | c :: r, n, s => if c = 10 then nthW line r (n + 1) s else if n = line then nthW line r n (s ++ [c]) else nthW line r n s
theorem nthW_past (line : Nat) : ∀ (r : Tx) (n : Nat) (s : Tx), line < n → nthW line r n s = s
  | [], _, _, _ => rfl
  | c :: r, n, s, h => by
    unfold nthW
    rw [if_neg (by omega : ¬ n = line), nthW_past line r (n + 1) s (by omega), nthW_past line r n s h]
    simp
theorem nthW_at (line : Nat) : ∀ (r : Tx) (s : Tx), nthW line r line s = s ++ (lns r)[0]?.getD []
  | [], s => by simp [nthW, lns]
  | c :: r, s => by
    unfold nthW
    obtain ⟨y, ys, hy⟩ := lns_ne r
    by_cases hc : c = 10
    · subst hc
      rw [if_pos rfl, nthW_past line r _ _ (by omega), lns_end]
      simp
    · rw [if_neg hc, if_pos rfl, nthW_at line r, lns_cons c r y ys hc hy, hy]
      simp
theorem nthW_ahead (line : Nat) : ∀ (r : Tx) (n : Nat), n ≤ line → nthW line r n [] = (lns r)[line - n]?.getD []
  | [], n, h => by
    unfold nthW
    rw [show lns [] = [[]] from rfl]
    cases h5 : line - n with
    | zero => rfl
    | succ k => rfl
  | c :: r, n, h => by
    by_cases hn : n = line
    · subst hn
      rw [nthW_at]
      simp
    · unfold nthW
      obtain ⟨y, ys, hy⟩ := lns_ne r
      by_cases hc : c = 10
      · subst hc
        rw [if_pos rfl, nthW_ahead line r (n + 1) (by omega), lns_end, show line - n = line - (n + 1) + 1 from by omega]
        rfl
      · rw [if_neg hc, if_neg hn, nthW_ahead line r n h, lns_cons c r y ys hc hy, hy, show line - n = (line - n - 1) + 1 from by omega]
        rfl
def nthL (t : Tx) (line : Nat) : Tx := (lns t)[line - 1]?.getD []
theorem nthL_len (t : Tx) (line : Nat) : (nthL t line).length ≤ t.length := by
  unfold nthL
  cases h : (lns t)[line - 1]? with
  | none => simp
  | some x => exact (ScH.lns_le t).2 x (List.mem_of_getElem? h)
theorem nthW_eq {line : Nat} (h : 0 < line) (t : Tx) : nthW line t 1 [] = nthL t line := nthW_ahead line t 1 h
set_option maxRecDepth 100000 in
set_option maxHeartbeats 4000000 in
theorem nth_any (t : Tx) (line : Nat) (ht : t.length ≤ 65536) (h0 : 0 < line) (hl : line ≤ 70000) {W w : World} {R : Asn} (h : St W w R) :
    Calls Tryz.prog 22 #[.string ⟨t.toArray⟩, .int .i64 line] w fun e w' => e = .returned (.string ⟨(nthL t line).toArray⟩) ∧ w' = w := by
  rw [← nthW_eq h0]
  obtain ⟨F, hF⟩ : ∃ F, nthW line t 1 [] = F := ⟨_, rfl⟩
  rw [hF]
  have HF := Lib.hid hF
  clear hF h
  go_enter Tryz.func22, Tryz.ntmps22
  go_wp2_with fail
  go_loopw [5, 6, 7] (fun sv nv iv wr => ∃ (i n : Nat) (s : Tx), i ≤ t.length ∧ iv = .int .i64 i ∧ nv = .int .i64 n ∧ sv = .string ⟨s.toArray⟩ ∧ n ≤ i + 1 ∧ s.length ≤ i ∧ Hid (nthW line (t.drop i) n s = F) ∧ wr = w) (fun _ _ iv _ => t.length - (intOf iv).toNat)
  case atStart => exact ⟨0, 1, [], Nat.zero_le _, rfl, rfl, rfl, by omega, by simp, HF, rfl⟩
  case round =>
    obtain ⟨i, n, s, hi, rfl, rfl, rfl, hn, hs, HC, rfl⟩ := hrel
    clear HF
    by_cases hin : i < t.length
    · have hinI : (i : Int) < t.length := by omega
      have hsz : i < (ByteArray.mk t.toArray).size := by simpa [ByteArray.size] using hin
      have hdr : t.drop i = (ByteArray.mk t.toArray)[i]'hsz :: t.drop (i + 1) := by
        rw [List.drop_eq_getElem_cons hin]; rfl
      have hsl := run_str_lh (P := Tryz.prog) 9 Tryz.underlying9 t (i : Int) ((i : Int) + 1) i (i + 1) rfl (by omega) (by omega) (by omega)
      rw [hdr, show i + 1 - i = 1 from by omega, show ∀ (a : UInt8) (l : Tx), (a :: l).take 1 = [a] from fun _ _ => rfl] at hsl
      generalize hc : (ByteArray.mk t.toArray)[i]'hsz = c at *
      have hcw := HC.out
      rw [hdr] at hcw
      simp only [nthW] at hcw
      by_cases hc10 : c = 10
      · subst hc10
        rw [if_pos rfl] at hcw
        have HCN := Lib.hid hcw
        clear hcw hdr hsl
        go_wp2_with fail
        exact ⟨⟨i + 1, n + 1, s, by omega, by go_num, by go_num, rfl, by omega, by omega, HCN, trivial⟩, by simp [intOf]; omega⟩
      · have hne : ((c.toNat : Int) == 10) = false := by
          rw [beq_eq_false_iff_ne]
          intro e
          exact hc10 (UInt8.toNat_inj.1 (by simpa using (by omega : c.toNat = 10)))
        rw [if_neg hc10] at hcw
        by_cases hnl : n = line
        · subst hnl
          rw [if_pos rfl] at hcw
          have hadd := run_str_add (P := Tryz.prog) s [c] (by simp; omega)
          have hl1 : (s ++ [c]).length ≤ i + 1 := by simp; omega
          have HCN := Lib.hid hcw
          clear hcw hdr hc10
          generalize s ++ [c] = s1 at *
          go_wp2_with fail
          exact ⟨⟨i + 1, n, s1, by omega, by go_num, rfl, rfl, by omega, hl1, HCN, trivial⟩, by simp [intOf]; omega⟩
        · have hnI : ((n : Int) == (line : Int)) = false := by rw [beq_eq_false_iff_ne]; omega
          rw [if_neg hnl] at hcw
          have HCN := Lib.hid hcw
          clear hcw hdr hc10 hsl
          go_wp2_with fail
          exact ⟨⟨i + 1, n, s, by omega, by go_num, rfl, rfl, by omega, by omega, HCN, trivial⟩, by simp [intOf]; omega⟩
    · obtain rfl : t.length = i := by omega
      have hcw := HC.out
      rw [List.drop_length] at hcw
      simp only [nthW] at hcw
      subst hcw
      go_wp2
      go_ret
      exact ⟨rfl, rfl⟩
end Go.Proofs.YtcjlbimmplejjaaGreatDoor.ScNt
