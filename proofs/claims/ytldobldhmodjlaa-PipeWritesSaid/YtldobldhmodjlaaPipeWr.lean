import Derived.Test.YtldobldhmodjlaaPipeLaw
namespace Go.Proofs.Ytldobldhmodjlaa.PipeWr
open Go Go.RowKit Go.Proofs Go.Proofs.Ytldobldhmodjlaa.Sep Go.Proofs.Ytldobldhmodjlaa.Reg Go.Proofs.Ytldobldhmodjlaa.Buf Go.Proofs.Ytldobldhmodjlaa.Pipe Go.Proofs.Ytldobldhmodjlaa.Frame Go.Proofs.Ytldobldhmodjlaa.PipeLaw

/-- How the pipe stands while the law writes. -/
structure Good (most : Nat) (st : PSt) : Prop where
  b : st.bounded = true
  f : st.finished = false
  o : st.over = false
  l : st.left = if st.broken then 0 else (most : Int) - st.out.length
  le : st.out.length ≤ most
  eq : st.broken = true → st.out.length = most
  i : st.inn = if st.broken then [] else [119, 97, 105, 116, 115]

theorem good_start (most : Nat) : Good most ⟨true, false, false, false, [119, 97, 105, 116, 115], [], 0, most⟩ := ⟨rfl, rfl, rfl, by simp, by simp, by simp, rfl⟩

/-- The three ways of a round. -/
theorem round_broken {st : PSt} (hb : st.broken = true) (s : List UInt8) : st.writing s = (0, false, st) := by
  unfold PSt.writing PSt.closed; simp [hb]
theorem round_fails {most : Nat} {st : PSt} (g : Good most st) (hb : st.broken = false) (s : List UInt8) (h : most < st.out.length + s.length) :
    st.writing s = (((most - st.out.length : Nat) : Int), false, { st with broken := true, inn := [], out := st.out ++ s.take (most - st.out.length), left := 0 }) := by
  have hl := g.l
  have hle := g.le
  rw [hb] at hl
  simp only [Bool.false_eq_true, if_false] at hl
  have e : (most : Int) - st.out.length = ((most - st.out.length : Nat) : Int) := by omega
  have hi := g.i
  rw [hb] at hi
  unfold PSt.writing PSt.closed PSt.fails
  rw [g.o, hb, g.b, hl, e, hi]
  have : ((most - st.out.length : Nat) : Int) < s.length := by omega
  simp [this]
theorem round_fine {most : Nat} {st : PSt} (g : Good most st) (hb : st.broken = false) (s : List UInt8) (h : st.out.length + s.length ≤ most) :
    st.writing s = ((s.length : Int), true, { st with out := st.out ++ s, left := (most : Int) - (st.out ++ s).length }) := by
  have hl := g.l
  have hle := g.le
  rw [hb] at hl
  simp only [Bool.false_eq_true, if_false] at hl
  unfold PSt.writing PSt.closed PSt.fails
  rw [g.o, hb, g.b, hl]
  have : ¬ ((most : Int) - st.out.length < s.length) := by omega
  simp [this]
  omega

theorem good_ready {most : Nat} {st : PSt} (g : Good most st) : st.ready = !st.broken := by
  unfold PSt.ready PSt.closed
  rw [g.o, g.f, g.i]
  cases st.broken <;> simp
theorem good_fails {most : Nat} {st : PSt} (g : Good most st) (s : List UInt8) (h : most < st.out.length + s.length) :
    Good most { st with broken := true, inn := [], out := st.out ++ s.take (most - st.out.length), left := 0 } := by
  have hle := g.le
  exact ⟨g.b, g.f, g.o, rfl, by simp; omega, fun _ => by simp; omega, rfl⟩
theorem good_fine {most : Nat} {st : PSt} (g : Good most st) (hb : st.broken = false) (s : List UInt8) (h : st.out.length + s.length ≤ most) :
    Good most { st with out := st.out ++ s, left := (most : Int) - (st.out ++ s).length } := by
  refine ⟨g.b, g.f, g.o, by simp [hb], by simpa using h, fun h => ?_, g.i⟩
  simp only at h
  rw [hb] at h; cases h

set_option maxRecDepth 100000 in
set_option maxHeartbeats 3200000 in
theorem writes_any {W w : World} {R : Asn} (a : Option Addr) (len cap : Nat) (xs : List (List UInt8)) (hlen : xs.length = len) (hsl : Sl W 1 (.slice a len cap) len (xs.flatMap Str.E)) (most : Nat) (hm : most ≤ 65535) (h : St W w R) :
    Calls Try.prog 3 #[.slice a len cap, .int .u16 most] w (Law W R) := by
  have hcap : cap ≤ 9223372036854775807 := by obtain ⟨_, _, _, e, _, h2, _⟩ := hsl; cases e; simpa [maxLen] using h2
  have hlc : len ≤ cap := by obtain ⟨_, _, _, e, h1, _⟩ := hsl; cases e; exact h1
  go_enter Try.func3, Try.ntmps3
  go_wp2_with fail
  refine (awake_any h).mono ?_
  rintro e w1 ⟨rfl, h1⟩
  go_wp2_with fail
  go_loop [5, 6] (fun n i => ∃ k : Nat, k ≤ len ∧ k ≤ 101 ∧ i = .int .i64 k ∧ n = .int .i64 (sumMin 20001 (xs.take k))) (fun _ i => len - (intOf i).toNat)
  case atStart => exact ⟨0, by omega, by omega, rfl, rfl⟩
  case round =>
    obtain ⟨k, hk, hk1, rfl, rfl⟩ := hrel
    have hb := sumMin_le 20001 (xs.take k)
    have hb2 : (xs.take k).length ≤ k := List.length_take_le _ _
    by_cases hlt : k < len
    · by_cases hk2 : k ≤ 100
      · obtain ⟨x, hx⟩ : ∃ x, xs[k]? = some x := ⟨_, List.getElem?_eq_getElem (by omega)⟩
        obtain ⟨ab, ao, rfl, hc⟩ := str_at (sl_later hsl h1) hx
        have hs := sumMin_snoc 20001 xs k x hx
        have HS := Lib.hid hs
        clear hs hx hsl
        go_wp2
        exact ⟨⟨k + 1, by omega, by omega, by go_num, by rw [HS.out]; refine int_eq ?_; split <;> omega⟩, by simp [intOf]; omega⟩
      · go_wp2
        go_ret
        exact ⟨rfl, h1⟩
    · obtain rfl : k = len := by omega
      rw [List.take_of_length_le (by omega)] at hb hb2 ⊢
      by_cases h100 : 100 < k
      · go_wp2
        go_ret
        exact ⟨rfl, h1⟩
      by_cases htot : 20000 < sumMin 20001 xs
      · go_wp2
        go_ret
        exact ⟨rfl, h1⟩
      have htl : totLen xs ≤ 20000 := by rw [show totLen xs = sumMin 20001 xs from totLen_of_sumMin 20000 xs (show sumMin 20001 xs ≤ 20000 by omega)]; omega
      go_wp2_with fail
      refine (PNew_St h1).mono ?_
      rintro e w2 ⟨p, rfl, h2⟩
      go_wp2_with fail
      refine (show Calls Try.prog 15 #[.pointer (some ⟨p, 0, none⟩), .string ⟨[119, 97, 105, 116, 115].toArray⟩] _ (PPost W R p 65536 (.int .i64 5) ⟨false, false, false, false, [119, 97, 105, 116, 115], [], 0, 0⟩) from Pipe.Arrive_any _ (by decide) h2).mono ?_
      rintro e w3 ⟨rfl, h3⟩
      go_wp2_with fail
      refine (show Calls Try.prog 16 #[.pointer (some ⟨p, 0, none⟩), .int .i64 most] _ (PPost W R p 65536 (.int .i64 0) ⟨true, false, false, false, [119, 97, 105, 116, 115], [], 0, most⟩) from by
        have := Pipe.Break_any (most : Int) h3
        rwa [show PSt.breaking _ (most : Int) = (0, _) from if_neg (by omega)] at this).mono ?_
      rintro e w4 ⟨rfl, h4⟩
      go_wp2_with fail
      go_loopw [8, 9, 10] (fun al fl i wr => ∃ (j : Nat) (st : PSt), j ≤ k ∧ i = .int .i64 j ∧ al = .string ⟨st.out.toArray⟩ ∧ fl = .bool st.broken ∧ Good most st ∧ st.out.length ≤ totLen (xs.take j) ∧ St W wr (star (PipeA p 65536 st) R))
        (fun _ _ i _ => k - (intOf i).toNat)
      case atStart => exact ⟨0, _, by omega, rfl, rfl, rfl, good_start most, by simp, h4⟩
      case round =>
        obtain ⟨j, st, hj, rfl, rfl, rfl, g, hout, hS⟩ := hrel
        have hout2 := totLen_take_le xs j
        by_cases hjk : j < k
        · obtain ⟨x, hx⟩ : ∃ x, xs[j]? = some x := ⟨_, List.getElem?_eq_getElem (by omega)⟩
          obtain ⟨ab, ao, rfl, hcell⟩ := str_at_all hsl hx
          have HCell := Lib.hid hcell
          have hc := hcell _ _ hS
          clear hcell
          have ht1 := totLen_snoc xs j x hx
          have ht2 := totLen_take_le xs (j + 1)
          have hxl : x.length ≤ 20000 := by omega
          have hol : st.out.length ≤ 20000 := by omega
          cases hbk : st.broken
          · by_cases hfit : most < st.out.length + x.length
            · have g' := good_fails g x hfit
              have hle := g.le
              have hlf : st.left = most - st.out.length := by rw [g.l, hbk]; simp
              have HC := Lib.hid (Pipe.Write_any x (by omega) (by omega) (by omega) (fun _ => by omega) hS)
              clear hlf
              rw [round_fails g hbk x hfit] at HC
              have HT : Hid ((st.out ++ x.take (most - st.out.length)).length ≤ totLen (xs.take (j + 1))) := Lib.hid (by simp; omega)
              have hstr := run_str_h (P := Try.prog) 9 Try.underlying9 x ((most - st.out.length : Nat) : Int) (most - st.out.length) rfl (by omega)
              have hadd := run_str_add (P := Try.prog) st.out (x.take (most - st.out.length)) (by simp; omega)
              have hm2 : (most : Int) < (st.out.length : Int) + x.length := by omega
              clear ht1 hx
              have hq : most - st.out.length ≤ x.length := by omega
              generalize hk9 : most - st.out.length = q at *
              clear hk9
              go_wp2_with fail
              refine HC.out.mono ?_
              rintro e w5 ⟨rfl, h5⟩
              have hc5 := HCell.out _ _ h5
              go_wp2_with fail
              refine (Pipe.Output_any h5).mono ?_
              rintro e w6 hq
              have h6 := h5.quiet hq
              obtain ⟨rfl, -⟩ := hq
              go_wp2_with fail
              refine (Pipe.Broken_any h6).mono ?_
              rintro e w7 hq
              have h7 := h6.quiet hq
              obtain ⟨rfl, -⟩ := hq
              go_wp2_with fail
              have HRd := Lib.hid (Pipe.Ready_any h7)
              rw [good_ready g'] at HRd
              refine HRd.out.mono ?_
              rintro e w8 hq
              have h8 := h7.quiet hq
              obtain ⟨rfl, -⟩ := hq
              go_wp2
              exact ⟨⟨j + 1, _, by omega, by go_num, rfl, rfl, g', HT.out, h8⟩, by simp [intOf]; omega⟩
            · have g' := good_fine g hbk x (by omega)
              have hle := g.le
              have hlf : st.left = most - st.out.length := by rw [g.l, hbk]; simp
              have HC := Lib.hid (Pipe.Write_any x (by omega) (by omega) (by omega) (fun _ => by omega) hS)
              clear hlf
              rw [round_fine g hbk x (by omega)] at HC
              have HT : Hid ((st.out ++ x).length ≤ totLen (xs.take (j + 1))) := Lib.hid (by simp; omega)
              have hstr := run_str_h (P := Try.prog) 9 Try.underlying9 x (x.length : Int) x.length rfl (by omega)
              rw [List.take_of_length_le (Nat.le_refl _)] at hstr
              have hadd := run_str_add (P := Try.prog) st.out x (by omega)
              clear ht1 hx
              go_wp2_with fail
              refine HC.out.mono ?_
              rintro e w5 ⟨rfl, h5⟩
              have hc5 := HCell.out _ _ h5
              go_wp2_with fail
              refine (Pipe.Output_any h5).mono ?_
              rintro e w6 hq
              have h6 := h5.quiet hq
              obtain ⟨rfl, -⟩ := hq
              go_wp2_with fail
              refine (Pipe.Broken_any h6).mono ?_
              rintro e w7 hq
              have h7 := h6.quiet hq
              obtain ⟨rfl, -⟩ := hq
              go_wp2_with fail
              have HRd := Lib.hid (Pipe.Ready_any h7)
              rw [good_ready g'] at HRd
              refine HRd.out.mono ?_
              rintro e w8 hq
              have h8 := h7.quiet hq
              obtain ⟨rfl, -⟩ := hq
              go_wp2
              exact ⟨⟨j + 1, _, by omega, by go_num, rfl, by rw [hbk], g', HT.out, h8⟩, by simp [intOf]; omega⟩
          · have g' := g
            have HC := Lib.hid (Pipe.Write_any x (by omega) (by rw [g.l, hbk]; simp) (by rw [g.l, hbk]; simp) (by rw [g.l, hbk]; simp) hS)
            rw [round_broken hbk] at HC
            have HT : Hid (st.out.length ≤ totLen (xs.take (j + 1))) := Lib.hid (by omega)
            have hstr := run_str_h (P := Try.prog) 9 Try.underlying9 x 0 0 rfl (by omega)
            have hadd := run_str_add (P := Try.prog) st.out [] (by simp; omega)
            clear ht1 hx
            go_wp2_with fail
            refine HC.out.mono ?_
            rintro e w5 ⟨rfl, h5⟩
            have hc5 := HCell.out _ _ h5
            go_wp2_with fail
            refine (Pipe.Output_any h5).mono ?_
            rintro e w6 hq
            have h6 := h5.quiet hq
            obtain ⟨rfl, -⟩ := hq
            go_wp2_with fail
            refine (Pipe.Broken_any h6).mono ?_
            rintro e w7 hq
            have h7 := h6.quiet hq
            obtain ⟨rfl, -⟩ := hq
            go_wp2_with fail
            have HRd := Lib.hid (Pipe.Ready_any h7)
            rw [good_ready g'] at HRd
            refine HRd.out.mono ?_
            rintro e w8 hq
            have h8 := h7.quiet hq
            obtain ⟨rfl, -⟩ := hq
            go_wp2
            exact ⟨⟨j + 1, st, by omega, by go_num, rfl, by rw [hbk], g, HT.out, h8⟩, by simp [intOf]; omega⟩
        · obtain rfl : j = k := by omega
          have hle := g.le
          cases hbk : st.broken
          · go_wp2
            go_ret
            exact ⟨rfl, hS.right⟩
          · have he := g.eq hbk
            have he' : ((st.out.length : Int) == (most : Int)) = true := by simp [he]
            have HW := Lib.hid (Pipe.Waits_any hS)
            rw [g.i, hbk] at HW
            clear he
            go_wp2_with fail
            refine HW.out.mono ?_
            rintro e w5 hq
            have h5 := hS.quiet hq
            obtain ⟨rfl, -⟩ := hq
            go_wp2
            go_ret
            exact ⟨rfl, h5.right⟩

/-- A number of 16 bits. -/
theorem u16_nat {n : Int} (h : (Lit.int .u16 n).wf = true) : ∃ m : Nat, n = m ∧ m ≤ 65535 := by
  simp [Lit.wf, IntKind.min, IntKind.max, IntKind.signed, IntKind.bits] at h
  exact ⟨n.toNat, by omega, by omega⟩
theorem writes_walk {W : World} (a : Option Addr) (len cap : Nat) (xs : List (List UInt8)) (hlen : xs.length = len) (hsl : Sl W 1 (.slice a len cap) len (xs.flatMap Str.E)) (_ : ∀ x ∈ xs, Str.Ok x) (m : Int) (hm : (Lit.int .u16 m).wf = true) :
    Calls Try.prog 3 #[.slice a len cap, .int .u16 m] W (Law W emp) := by
  obtain ⟨m, rfl, hm'⟩ := u16_nat hm
  exact writes_any a len cap xs hlen hsl m hm' (St.start W)

end Go.Proofs.Ytldobldhmodjlaa.PipeWr
