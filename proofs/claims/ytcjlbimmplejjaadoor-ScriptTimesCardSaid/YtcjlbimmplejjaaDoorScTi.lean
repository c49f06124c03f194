import Derived.Test.YtcjlbimmplejjaaDoorScNu
import Derived.Test.YtcjlbimmplejjaaDoorScTc
import Derived.Test.YtcjlbimmplejjaaDoorScFi
namespace Go.Proofs.YtcjlbimmplejjaaDoor.ScTi
open Go Go.RowKit Go.Proofs Go.Proofs.YtcjlbimmplejjaaDoor.Sep Go.Proofs.YtcjlbimmplejjaaDoor.Reg Go.Proofs.YtcjlbimmplejjaaDoor.Frame Go.Proofs.YtcjlbimmplejjaaDoor.WdP Go.Proofs.YtcjlbimmplejjaaDoor.WdT Go.Proofs.YtcjlbimmplejjaaDoor.WdN Go.Proofs.YtcjlbimmplejjaaDoor.ScP Go.Proofs.YtcjlbimmplejjaaDoor.ScQ Go.Proofs.YtcjlbimmplejjaaDoor.ScT Go.Proofs.YtcjlbimmplejjaaDoor.ScB Go.Proofs.YtcjlbimmplejjaaDoor.ScA Go.Proofs.YtcjlbimmplejjaaDoor.ScM Go.Proofs.YtcjlbimmplejjaaDoor.ScH Go.Proofs.YtcjlbimmplejjaaDoor.ScJ Go.Proofs.YtcjlbimmplejjaaDoor.ScR Go.Proofs.YtcjlbimmplejjaaDoor.ScK Go.Proofs.YtcjlbimmplejjaaDoor.ScNt Go.Proofs.YtcjlbimmplejjaaDoor.ScNu Go.Proofs.YtcjlbimmplejjaaDoor.ScTc Go.Proofs.YtcjlbimmplejjaaDoor.ScFi

theorem rem_of (a : Int) (h : (Lit.int .u16 a).wf = true) : ∃ k : Nat, k ≤ 1000 ∧ a.tmod 1001 = k := by
  have h0 : 0 ≤ a := by simp [Lit.wf] at h; exact Int.le_trans (by decide) h.1
  refine ⟨(a.tmod 1001).toNat, ?_, ?_⟩ <;> rw [Int.tmod_eq_emod_of_nonneg h0] <;> omega
/-- The ways a text done some times may answer. -/
def TLaw (t : Tx) (k : Nat) (l m : List Ac) (line e a f : Nat) : Prop :=
  (e = 0 ∧ line = 0 ∧ ((4096 < l.length * k ∧ m = [] ∧ a = 0 ∧ f = 3) ∨ (l.length * k ≤ 4096 ∧ m = reps k l ∧ a = 0 ∧ f = 0))) ∨
  (e = 3 ∧ ((0 < k ∧ m = [] ∧ a = 0 ∧ f = 3) ∨ (k = 0 ∧ m = [] ∧ a = 0 ∧ f = 0))) ∨
  (e = 11 ∧ a ≤ line ∧ m = [] ∧ f = 11) ∨
  (e = 8 ∧ ((∃ j x, line = j + 1 ∧ (lns t)[j]? = some x ∧ wd x = wEnd) ∨ (m = [] ∧ a = line + 1 ∧ f = 8)) ∧ 0 < line)
theorem tlaw {t : Tx} {k : Nat} (hk : k ≤ 1000) (ht : t.length ≤ 2000) (hc : tcount (lns t) ≤ 7) (hu : (timesT k t).length ≤ 65536) {l m : List Ac} {line e a f : Nat} (hp : parseP t = (l, line, e)) (hq : parseP (timesT k t) = (m, a, f)) : TLaw t k l m line e a f := by
  have h8 : e = 8 → 0 < line := fun h => by
    subst h
    obtain ⟨n, hn⟩ := (parseP_form (by omega : t.length ≤ 65536)).1 (by rw [hp])
    have := parse_8 (by omega) hp
    obtain ⟨k, x, sk, hn, -⟩ := goP_error _ _ _ _ this
    omega
  rcases times_law hk ht hc hu hp with ⟨h1, h2, h3⟩ | ⟨h1, h3⟩ | ⟨h1, b, hb, h3⟩ | ⟨h1, h3⟩
  · refine .inl ⟨h1, h2, ?_⟩
    rcases h3 with ⟨h4, h5⟩ | ⟨h4, h5⟩ <;> rw [hq] at h5 <;> simp only [Prod.mk.injEq] at h5
    · exact .inl ⟨h4, h5⟩
    · exact .inr ⟨h4, h5⟩
  · refine .inr (.inl ⟨h1, ?_⟩)
    rcases h3 with ⟨h4, h5⟩ | ⟨h4, h5⟩ <;> rw [hq] at h5 <;> simp only [Prod.mk.injEq] at h5
    · exact .inl ⟨h4, h5⟩
    · exact .inr ⟨h4, h5⟩
  · rw [hq] at h3
    simp only [Prod.mk.injEq] at h3
    exact .inr (.inr (.inl ⟨h1, by omega, h3.1, h3.2.2⟩))
  · refine .inr (.inr (.inr ⟨h1, ?_, h8 h1⟩))
    rcases h3 with h4 | h5
    · exact .inl h4
    · rw [hq] at h5
      simp only [Prod.mk.injEq] at h5
      exact .inr h5
theorem mark {t : Tx} {line : Nat} (h : ∃ j x, line = j + 1 ∧ (lns t)[j]? = some x ∧ wd x = wEnd) : Lib.contains (nthL t line) wEnd = true := by
  obtain ⟨j, x, rfl, hx, hw⟩ := h
  unfold nthL
  rw [show j + 1 - 1 = j from by omega, hx]
  exact contains_wd hw (by decide)
theorem times_cat (k : Nat) (t : Tx) : timesT k t = [116, 105, 109, 101, 115, 32] ++ Lib.decDigits k ++ [10] ++ t ++ [10, 101, 110, 100] := by simp [timesT, wTimes, wEnd]
set_option maxRecDepth 100000 in
set_option maxHeartbeats 16000000 in
theorem times_any (t : Tx) (_ : (⟨t.toArray⟩ : ByteArray).size ≤ maxLen) (n : Int) (hn : (Lit.int .u16 n).wf = true) {W : World} (hG : GlE W) :
    Calls Tryd.prog 5 #[.string ⟨t.toArray⟩, .int .u16 n] W (Law W emp) := by
  have HAw := Lib.hid (awake_any hG.1 hG.2 (St.start W))
  have HG := Lib.hid hG
  clear hG
  by_cases h1 : 2000 < t.length
  · have h1I : (2000 : Int) < t.length := by omega
    go_enter Tryd.func5, Tryd.ntmps5
    go_wp2_with fail
    refine HAw.out.mono ?_
    rintro e w1 ⟨rfl, hS⟩
    have HS := Lib.hid hS
    clear hS
    go_wp2
    go_ret
    exact ⟨rfl, HS.out⟩
  have h1I : ¬ (2000 : Int) < t.length := by omega
  go_enter Tryd.func5, Tryd.ntmps5
  go_wp2_with fail
  refine HAw.out.mono ?_
  rintro e w1 ⟨rfl, hS⟩
  obtain ⟨mx, hmx⟩ := (HG.out.1.st hS).1
  have HCo := Lib.hid (Tryd.strings_Count ⟨t.toArray⟩ ⟨#[116, 105, 109, 101, 115]⟩ mx w1 (by simp [ByteArray.size]; omega) hmx (by decide))
  have htc := tcount_le _ t (Nat.lt_succ_self _)
  rw [show Lib.countB ⟨t.toArray⟩ ⟨#[116, 105, 109, 101, 115]⟩ = Lib.count t wTimes from rfl] at HCo
  generalize Lib.count t wTimes = ct at *
  have HS1 := Lib.hid hS
  clear hS hmx HAw
  go_wp2_with fail
  refine HCo.out.mono ?_
  rintro e w2 ⟨rfl, rfl⟩
  clear HCo
  by_cases h7 : 7 < ct
  · have h7I : (7 : Int) < ct := by omega
    go_wp2
    go_ret
    exact ⟨rfl, HS1.out⟩
  have h7I : ¬ (7 : Int) < ct := by omega
  obtain ⟨k, hk, hkI⟩ := rem_of n hn
  have hdl := ScNu.dec_len k
  have hcat := times_cat k t
  have hlen : (timesT k t).length ≤ 10000 := by rw [hcat]; simp; omega
  obtain ⟨l, line, e, hp⟩ : ∃ l i e, parseP t = (l, i, e) := ⟨_, _, _, rfl⟩
  obtain ⟨m, a, f, hq⟩ : ∃ l i e, parseP (timesT k t) = (l, i, e) := ⟨_, _, _, rfl⟩
  have HTL := Lib.hid (tlaw hk (by omega) (by omega) (by omega) hp hq)
  have hl1 := parse_line hp
  have hl2 := parse_line hq
  have hl4 := parse_len hp
  have hl5 := parse_len hq
  have q1 := run_str_add (P := Tryd.prog) [116, 105, 109, 101, 115, 32] (Lib.decDigits k) (by simp; omega)
  have HNum := Lib.hid fun (w : World) (A : Asn) (hS : St W w A) => number_any k (by omega) W w A hS
  obtain ⟨dk, hdk⟩ : ∃ z, Lib.decDigits k = z := ⟨_, rfl⟩
  rw [hdk] at q1 hdl HNum hcat
  obtain ⟨T1, hT1⟩ : ∃ z, [116, 105, 109, 101, 115, 32] ++ dk = z := ⟨_, rfl⟩
  have l1 : T1.length ≤ 1007 := by rw [← hT1]; simp; omega
  rw [hT1] at q1 hcat
  have q2 := run_str_add (P := Tryd.prog) T1 [10] (by simp; omega)
  obtain ⟨T2, hT2⟩ : ∃ z, T1 ++ [10] = z := ⟨_, rfl⟩
  have l2 : T2.length ≤ 1008 := by rw [← hT2]; simp; omega
  rw [hT2] at q2 hcat
  have q3 := run_str_add (P := Tryd.prog) T2 t (by omega)
  obtain ⟨T3, hT3⟩ : ∃ z, T2 ++ t = z := ⟨_, rfl⟩
  have l3 : T3.length ≤ 3008 := by rw [← hT3]; simp; omega
  rw [hT3] at q3 hcat
  have q4 := run_str_add (P := Tryd.prog) T3 [10, 101, 110, 100] (by simp; omega)
  rw [← hcat] at q4
  obtain ⟨T4, hT4⟩ : ∃ z, timesT k t = z := ⟨_, rfl⟩
  rw [hT4] at q4 hq hl2 hlen
  have H1 := Lib.hid (Parse_as HG.out hp (by omega) HS1.out)
  have HQ := Lib.hid hq
  clear hcat hT1 hT2 hT3 hT4 hdk hq hp HS1 htc h7 h1
  go_wp2_with fail
  refine H1.out.mono ?_
  rintro e1 w3 ⟨v3, rfl, hS⟩
  obtain ⟨a3, c3, rfl⟩ : ∃ a c, v3 = .slice a l.length c := by obtain ⟨_, a, c, hv, _⟩ := hS.rowSl; exact ⟨a, c, hv⟩
  have HNm := Lib.hid (HNum.out _ _ hS)
  clear H1 hS HNum
  go_wp2_with fail
  refine HNm.out.mono ?_
  rintro e1 w4 ⟨rfl, hS⟩
  have H2 := Lib.hid (Parse_as HG.out HQ.out (by omega) hS)
  clear HNm hS
  go_wp2_with fail
  refine H2.out.mono ?_
  rintro e1 w5 ⟨v5, rfl, hS⟩
  obtain ⟨a5, c5, rfl⟩ : ∃ a c, v5 = .slice a m.length c := by obtain ⟨_, a, c, hv, _⟩ := hS.rowSl; exact ⟨a, c, hv⟩
  have HS := Lib.hid hS
  clear hS H2 HQ q1 q2 q3 q4
  rcases HTL.out with ⟨rfl, rfl, h3⟩ | ⟨rfl, h3⟩ | ⟨rfl, hb, rfl, rfl⟩ | ⟨rfl, h3, h0⟩
  · obtain ⟨d, hd⟩ : ∃ d, l.length * k = d := ⟨_, rfl⟩
    have hmI : (l.length : Int) * (k : Int) = (d : Int) := by rw [← hd]; simp
    have hdb : d ≤ 4096 * 1000 := by rw [← hd]; exact Nat.mul_le_mul hl4 hk
    rw [hd] at h3
    rcases h3 with ⟨h4, rfl, rfl, rfl⟩ | ⟨h4, hm, rfl, rfl⟩
    · have h4I : (4096 : Int) < d := by omega
      clear HTL hd
      go_wp2
      go_ret
      exact ⟨rfl, HS.out.right.right⟩
    · have h4I : ¬ (4096 : Int) < d := by omega
      have hmd : m.length = d := by rw [hm, reps_len, Nat.mul_comm]; exact hd
      have hne : ((m.length : Int) != (d : Int)) = false := by rw [hmd]; simp
      have HM : Hid (m = reps k l) := Lib.hid hm
      have hdk : 0 < d → 0 < l.length := fun h => by
        rcases Nat.eq_zero_or_pos l.length with h5 | h5
        · rw [h5, Nat.zero_mul] at hd; omega
        · exact h5
      have HD : Hid (d = k * l.length) := Lib.hid (by rw [← hd, Nat.mul_comm])
      clear HTL hd hm
      go_wp2_with fail
      go_loopw [12] (fun iv wr => ∃ i : Nat, i ≤ m.length ∧ iv = .int .i64 i ∧ St W wr (star (Row 36 4 (.slice a5 m.length c5) m.length (actsV m)) (star (Row 36 4 (.slice a3 l.length c3) l.length (actsV l)) emp))) (fun iv _ => m.length - (intOf iv).toNat)
      case atStart => exact ⟨0, Nat.zero_le _, rfl, HS.out⟩
      case round =>
        obtain ⟨i, hi, rfl, hS⟩ := hrel
        clear HS
        by_cases hin : i < m.length
        · have hinI : (i : Int) < m.length := by omega
          have hl0 : 0 < l.length := hdk (by omega)
          obtain ⟨r, hr⟩ : ∃ r, i % l.length = r := ⟨_, rfl⟩
          have hrl : r < l.length := by rw [← hr]; exact Nat.mod_lt _ hl0
          have hrI : (i : Int).tmod l.length = (r : Int) := by rw [Int.tmod_eq_emod_of_nonneg (by omega), ← hr]; simp
          have hz : ((l.length : Int) == 0) = false := by rw [beq_eq_false_iff_ne]; omega
          obtain ⟨x, hx⟩ : ∃ x, m[i]? = some x := ⟨_, List.getElem?_eq_getElem hin⟩
          have hy : l[r]? = some x := by
            rw [HM.out, reps_get l k i (by rw [← HD.out]; omega), hr] at hx
            exact hx
          have hcm : m.length ≤ c5 ∧ c5 ≤ 9223372036854775807 := by obtain ⟨_, _, _, hv, h1, h2, _⟩ := hS.rowSl; cases hv; exact ⟨h1, by simpa [maxLen] using h2⟩
          have hcl : l.length ≤ c3 ∧ c3 ≤ 9223372036854775807 := by obtain ⟨_, _, _, hv, h1, h2, _⟩ := hS.right.rowSl; cases hv; exact ⟨h1, by simpa [maxLen] using h2⟩
          obtain ⟨ab, ao, rfl, ⟨a0, a1, a2, a3'⟩, -⟩ := act_at hS.rowSl hx
          obtain ⟨bb, bo, rfl, ⟨b0, b1, b2, b3⟩, -⟩ := act_at hS.right.rowSl hy
          have heq := eqA x x
          rw [show decide (x = x) = true from decide_eq_true rfl] at heq
          have HS := Lib.hid hS.drew
          clear hS hx hy hr
          go_upto_region 17 with fail
          go_big_region
          clear a0 a1 a2 a3' b0 b1 b2 b3
          go_wp2_with fail
          exact ⟨⟨i + 1, hin, by go_num, HS.out⟩, by simp [intOf]; omega⟩
        · obtain rfl : m.length = i := by omega
          have HS := Lib.hid hS
          clear hS
          go_wp2
          go_ret
          exact ⟨rfl, HS.out.right.right⟩
  · rcases h3 with ⟨h4, rfl, rfl, rfl⟩ | ⟨rfl, rfl, rfl, rfl⟩
    · have h4I : (0 : Int) < k := by omega
      clear HTL
      go_wp2
      go_ret
      exact ⟨by first | rfl | simp [h4], HS.out.right.right⟩
    · clear HTL
      go_wp2
      go_ret
      exact ⟨rfl, HS.out.right.right⟩
  · have hbI : (a : Int) ≤ line := by omega
    clear HTL
    go_wp2
    go_ret
    exact ⟨by first | rfl | simp [hb], HS.out.right.right⟩
  · have HNt := Lib.hid (nth_any t line (by omega) h0 (by omega) HS.out)
    obtain ⟨mx, hmx⟩ := (HG.out.1.st HS.out).1
    have HCo := Lib.hid (Tryd.strings_Contains ⟨(nthL t line).toArray⟩ ⟨#[101, 110, 100]⟩ mx w5 (by have := nthL_len t line; simp [ByteArray.size]; omega) hmx)
    rw [show Lib.contains (ByteArray.mk (nthL t line).toArray).data.toList (ByteArray.mk #[101, 110, 100]).data.toList = Lib.contains (nthL t line) wEnd from rfl] at HCo
    clear hmx HTL
    rcases h3 with hmk | ⟨rfl, ha, rfl⟩
    · rw [mark hmk] at HCo
      clear hmk
      go_wp2_with fail
      refine HNt.out.mono ?_
      rintro e6 w7 ⟨rfl, rfl⟩
      go_wp2_with fail
      refine HCo.out.mono ?_
      rintro e6 w8 ⟨rfl, rfl⟩
      clear HNt HCo
      go_wp2
      go_ret
      exact ⟨rfl, HS.out.right.right⟩
    · generalize Lib.contains (nthL t line) wEnd = cb at *
      have hpI : (line : Int) + 1 = (a : Int) := by omega
      clear ha
      go_wp2_with fail
      refine HNt.out.mono ?_
      rintro e6 w7 ⟨rfl, rfl⟩
      go_wp2_with fail
      refine HCo.out.mono ?_
      rintro e6 w8 ⟨rfl, rfl⟩
      clear HNt HCo
      cases cb with
      | true =>
        go_wp2
        go_ret
        exact ⟨rfl, HS.out.right.right⟩
      | false =>
        go_wp2
        go_ret
        exact ⟨rfl, HS.out.right.right⟩
end Go.Proofs.YtcjlbimmplejjaaDoor.ScTi
