import Derived.Test.YtldobldhmodjlaaBufLaw
namespace Go.Proofs.Ytldobldhmodjlaa.BufStr
open Go Go.RowKit Go.Proofs Go.Proofs.Ytldobldhmodjlaa.Sep Go.Proofs.Ytldobldhmodjlaa.Reg Go.Proofs.Ytldobldhmodjlaa.Buf Go.Proofs.Ytldobldhmodjlaa.Frame Go.Proofs.Ytldobldhmodjlaa.BufFind Go.Proofs.Ytldobldhmodjlaa.BufLaw

theorem take_add_take (s : List UInt8) (at_ k : Nat) : s.take at_ ++ ((s.drop at_).take k) = s.take (at_ + k) := by
  rw [List.take_add]

set_option maxRecDepth 100000 in
set_option maxHeartbeats 800000 in
theorem stream_any {W w : World} {R : Asn} (hm : MaxLen W) (s : List UInt8) (most : Nat) (hmost : most ≤ 65535) (a2 : Option Addr) (len2 cap2 : Nat) (cs : List UInt8) (hlen2 : cs.length = len2) (hsl2 : Sl W 1 (.slice a2 len2 cap2) len2 (cs.flatMap Byte.E)) (h : St W w R) :
    Calls Try.prog 11 #[.string ⟨s.toArray⟩, .int .u16 most, .slice a2 len2 cap2] w (Law W R) := by
  have hcap2 : cap2 ≤ 9223372036854775807 := by obtain ⟨_, _, _, e, _, h2, _⟩ := hsl2; cases e; simpa [maxLen] using h2
  have hlc2 : len2 ≤ cap2 := by obtain ⟨_, _, _, e, h1, _⟩ := hsl2; cases e; exact h1
  go_enter Try.func11, Try.ntmps11
  go_wp2_with fail
  refine (awake_any hm h).mono ?_
  rintro e w0 ⟨rfl, h0⟩
  by_cases hs : 5000 < s.length
  · go_wp2
    go_ret
    exact ⟨rfl, h0⟩
  by_cases hz : 2000 < len2
  · go_wp2
    go_ret
    exact ⟨rfl, h0⟩
  have HN := Lib.hid (Buf.New_St (1 + most) (by omega) h0)
  rw [show ((1 + most : Nat) : Int) = 1 + (most : Int) from by omega] at HN
  go_wp2_with fail
  refine HN.out.mono ?_
  rintro e w1 ⟨b, rfl, h1⟩
  generalize hmx : 1 + most = max at *
  have hmxI : 1 + (most : Int) = max := by omega
  go_wp2_with fail
  go_loopw [9, 10, 11] (fun gt at_ i wr => ∃ (j g l t : Nat), j ≤ len2 ∧ i = .int .i64 j ∧ g + l = t ∧ t ≤ s.length ∧ l ≤ max ∧ gt = .string ⟨(s.take g).toArray⟩ ∧ at_ = .int .i64 (t : Int) ∧ St W wr (star (BufA b true max ((s.drop g).take l)) R))
    (fun _ _ i _ => len2 - (intOf i).toNat)
  case atStart => exact ⟨0, 0, 0, 0, by omega, rfl, rfl, by omega, by omega, rfl, rfl, by simpa using h1⟩
  case round =>
    obtain ⟨j, g, l, t, hj, rfl, hglt, hgl, hlm, rfl, rfl, hS⟩ := hrel
    have hbl : ((s.drop g).take l).length = l := by simp; omega
    have hgt : (s.take g).length = g := by simp; omega
    by_cases hj2 : j < len2
    · obtain ⟨c, hcx⟩ : ∃ c, cs[j]? = some c := ⟨_, List.getElem?_eq_getElem (by omega)⟩
      obtain ⟨bb, bo, rfl, hbyte⟩ := byte_at_all hsl2 hcx
      have hb5 := hbyte _ _ hS
      have hcl : c.toNat ≤ 255 := by have := c.toNat_lt; omega
      clear hbyte hcx
      rcases Nat.mod_two_eq_zero_or_one j with hpar | hpar
      · -- a write
        have hpar' : ((j : Int) % 2) = 0 := by omega
        have HRm := Lib.hid (Buf.Room_any hS)
        rw [hbl] at HRm
        obtain ⟨e9, he9⟩ : ∃ e9 : Nat, min s.length (t + c.toNat) = e9 := ⟨_, rfl⟩
        have he9a : t ≤ e9 := by omega
        have he9b : e9 ≤ s.length := by omega
        have hstr := run_str_lh (P := Try.prog) 9 Try.underlying9 s (t : Int) (e9 : Int) t e9 rfl rfl he9a he9b
        obtain ⟨kk, hkk⟩ : ∃ kk : Nat, min (e9 - t) (max - l) = kk := ⟨_, rfl⟩
        have hpl : ((s.drop t).take (e9 - t)).length = e9 - t := by simp; omega
        have HW := Lib.hid fun (w : World) (h : St W w (star (BufA b true max ((s.drop g).take l)) R)) => (show Calls Try.prog 32 #[.pointer (some ⟨b, 0, none⟩), .string ⟨((s.drop t).take (e9 - t)).toArray⟩] w (BPost W R b max ((s.drop g).take (l + kk)) (.int .i64 (kk : Int))) from by
          refine (Buf.Write_any ((s.drop t).take (e9 - t)) (by rw [hpl]; omega) h).mono ?_
          rintro e w' ⟨rfl, h'⟩
          rw [hpl, hbl, hkk]
          rw [hbl, List.take_take, Nat.min_comm, hkk, show (s.drop t) = (s.drop g).drop l from by rw [List.drop_drop, hglt], ← List.take_add] at h'
          exact ⟨rfl, h'⟩)
        have hmin : min (s.length : Int) ((t : Int) + (c.toNat : Int)) = (e9 : Int) := by omega
        have hmin2 : min ((max - l : Nat) : Int) (((s.drop t).take (e9 - t)).length : Int) = (kk : Int) := by rw [hpl]; omega
        have hkl : g + (l + kk) ≤ s.length := by omega
        have hkm : l + kk ≤ max := by omega
        generalize (s.drop t).take (e9 - t) = q at *
        clear hkk he9 hpl hbl hgt
        go_wp2_with fail
        refine HRm.out.mono ?_
        rintro e w2 hq
        have h2 := hS.quiet hq
        obtain ⟨rfl, -⟩ := hq
        go_wp2_with fail
        refine (HW.out _ h2).mono ?_
        rintro e w3 ⟨rfl, h3⟩
        go_wp2
        exact ⟨⟨j + 1, g, l + kk, t + kk, by omega, by go_num, by omega, by omega, hkm, rfl, by go_num, h3⟩, by simp [intOf]; omega⟩
      · have hpar' : ¬ ((j : Int) % 2) = 0 := by omega
        have hP := Lib.hid fun (w : World) (h : St W w (star (BufA b true max ((s.drop g).take l)) R)) => (show Calls Try.prog 40 #[.pointer (some ⟨b, 0, none⟩), .int .i64 c.toNat] w (Quiet w (.string ⟨(((s.drop g).take l).take c.toNat).toArray⟩)) from Buf.Peek_any (c.toNat : Int) h)
        have hR := Lib.hid fun (w : World) (h : St W w (star (BufA b true max ((s.drop g).take l)) R)) => (show Calls Try.prog 34 #[.pointer (some ⟨b, 0, none⟩), .int .i64 c.toNat] w (BPost W R b max (((s.drop g).take l).drop c.toNat) (.string ⟨(((s.drop g).take l).take c.toNat).toArray⟩)) from Buf.Read_any (c.toNat : Int) h)
        obtain ⟨m, hmm⟩ : ∃ m : Nat, min c.toNat l = m := ⟨_, rfl⟩
        have ht : ((s.drop g).take l).take c.toNat = (s.drop g).take m := by rw [List.take_take, hmm]
        have hd : ((s.drop g).take l).drop c.toNat = (s.drop (g + m)).take (l - m) := by
          rcases Nat.le_total c.toNat l with hq | hq
          · rw [Nat.min_eq_left hq] at hmm
            subst hmm
            rw [List.drop_take, List.drop_drop]
          · rw [Nat.min_eq_right hq] at hmm
            subst hmm
            rw [List.drop_of_length_le (by rw [hbl]; omega)]; simp
        rw [ht] at hP hR
        rw [hd] at hR
        have hml : m ≤ l := by omega
        have hmc : m ≤ c.toNat := by omega
        have hadd := run_str_add (P := Try.prog) (s.take g) ((s.drop g).take m) (by simp; omega)
        rw [take_add_take] at hadd
        have hql : ((s.drop g).take m).length = m := by simp; omega
        have hgl2 : (s.take (g + m)).length = g + m := by simp; omega
        have hrl : ((s.drop (g + m)).take (l - m)).length = l - m := by simp; omega
        have hstr := run_str_h (P := Try.prog) 9 Try.underlying9 s ((s.take (g + m)).length : Int) (g + m) (by rw [hgl2]) (by omega)
        have hq2t : ((s.take (g + m)).length : Int) + ((l - m : Nat) : Int) = (t : Int) := by rw [hgl2]; omega
        have hq2s : (s.take (g + m)).length ≤ s.length := by rw [hgl2]; omega
        have hqc : ((s.drop g).take m).length ≤ c.toNat := by rw [hql]; omega
        have hsum : ((l - m : Nat) : Int) + ((max - (l - m) : Nat) : Int) = 1 + (most : Int) := by omega
        have HLn := Lib.hid fun (w : World) (h : St W w (star (BufA b true max ((s.drop (g + m)).take (l - m))) R)) => Buf.Len_any h
        have HRm := Lib.hid fun (w : World) (h : St W w (star (BufA b true max ((s.drop (g + m)).take (l - m))) R)) => Buf.Room_any h
        simp only [hrl] at HLn HRm
        have HT := Lib.hid hgl2
        generalize (s.drop g).take m = q at *
        generalize hq2 : s.take (g + m) = q2 at *
        have HQ2 := Lib.hid hq2
        clear ht hd hmm hbl hgt hrl hq2 hgl2 hql
        go_wp2_with fail
        refine (hP.out _ hS).mono ?_
        rintro e w2 hq
        have h2 := hS.quiet hq
        obtain ⟨rfl, -⟩ := hq
        go_wp2_with fail
        refine (hR.out _ h2).mono ?_
        rintro e w3 ⟨rfl, h3⟩
        go_wp2_with fail
        refine (HLn.out _ h3).mono ?_
        rintro e w4 hq
        have h4 := h3.quiet hq
        obtain ⟨rfl, -⟩ := hq
        go_wp2_with fail
        refine (HRm.out _ h4).mono ?_
        rintro e w5 hq
        have h5 := h4.quiet hq
        obtain ⟨rfl, -⟩ := hq
        go_wp2_with fail
        refine (HLn.out _ h5).mono ?_
        rintro e w6 hq
        have h6 := h5.quiet hq
        obtain ⟨rfl, -⟩ := hq
        go_wp2
        exact ⟨⟨j + 1, g + m, l - m, t, by omega, by go_num, by omega, by omega, by omega, by rw [HQ2.out], rfl, h6⟩, by simp [intOf]; omega⟩
    · obtain rfl : j = len2 := by omega
      have hR := Lib.hid fun (w : World) (h : St W w (star (BufA b true max ((s.drop g).take l)) R)) => (show Calls Try.prog 34 #[.pointer (some ⟨b, 0, none⟩), .int .i64 5000] w (BPost W R b max (((s.drop g).take l).drop 5000) (.string ⟨(((s.drop g).take l).take 5000).toArray⟩)) from Buf.Read_any (5000 : Int) h)
      rw [show ((s.drop g).take l).take 5000 = (s.drop g).take l from List.take_of_length_le (by rw [hbl]; omega), show ((s.drop g).take l).drop 5000 = [] from List.drop_of_length_le (by rw [hbl]; omega)] at hR
      have HLn := Lib.hid fun (w : World) (h : St W w (star (BufA b true max []) R)) => Buf.Len_any h
      have hadd := run_str_add (P := Try.prog) (s.take g) ((s.drop g).take l) (by simp; omega)
      rw [take_add_take, hglt] at hadd
      have hstr := run_str_h (P := Try.prog) 9 Try.underlying9 s (t : Int) t rfl (by omega)
      generalize (s.drop g).take l = q at *
      generalize s.take t = q2 at *
      go_wp2_with fail
      refine wp_region_segs [(false, [0, 1, 4, 5, 6, 2]), (true, [3, 7, 8, 9, 10, 11, 12, 13])] (by kernel_rfl) (by kernel_rfl) ?_
      simp only [wpSegs, pickOps, nthOp]
      go_wp2_with fail
      refine (hR.out _ (St.drew hS)).mono ?_
      rintro e w2 ⟨rfl, h2⟩
      have HQ := Lib.hid fun n => HLn.out _ (St.drewN h2 n)
      clear hR HLn
      go_wp2_with fail
      simp only [Reg.Next]
      repeat (go_big_quiet_step ((go_at_call 43; exact Calls.quiet_of (HQ.out _))))
      refine wpQuiet_nil ?_
      intro nq
      have h3 := St.drewN h2 nq
      go_wp2
      go_ret
      exact ⟨rfl, h3.right⟩

theorem u16_nat {n : Int} (h : (Lit.int .u16 n).wf = true) : ∃ m : Nat, n = m ∧ m ≤ 65535 := by
  simp [Lit.wf, IntKind.min, IntKind.max, IntKind.signed, IntKind.bits] at h
  exact ⟨n.toNat, by omega, by omega⟩
theorem stream_walk (s : List UInt8) (_ : (⟨s.toArray⟩ : ByteArray).size ≤ maxLen) (m : Int) (hw : (Lit.int .u16 m).wf = true) {W : World} (a2 : Option Addr) (len2 cap2 : Nat) (cs : List UInt8) (hlen2 : cs.length = len2) (hsl2 : Sl W 1 (.slice a2 len2 cap2) len2 (cs.flatMap Byte.E)) (_ : ∀ x ∈ cs, Byte.Ok x) (hm : MaxLen W) :
    Calls Try.prog 11 #[.string ⟨s.toArray⟩, .int .u16 m, .slice a2 len2 cap2] W (Law W emp) := by
  obtain ⟨m, rfl, hm'⟩ := u16_nat hw
  exact stream_any hm s m hm' a2 len2 cap2 cs hlen2 hsl2 (St.start W)

end Go.Proofs.Ytldobldhmodjlaa.BufStr
