import Derived.Test.YtjobidgihjfheaaDoorTrW
import Derived.Test.YtjobidgihjfheaaDoorTrR
namespace Go.Proofs.YtjobidgihjfheaaDoor.TrG
open Go Go.RowKit Go.Proofs Go.Proofs.YtjobidgihjfheaaDoor.Sep Go.Proofs.YtjobidgihjfheaaDoor.Reg Go.Proofs.YtjobidgihjfheaaDoor.Frame Go.Proofs.YtjobidgihjfheaaDoor.Strs Go.Proofs.YtjobidgihjfheaaDoor.PathP Go.Proofs.YtjobidgihjfheaaDoor.Mp Go.Proofs.YtjobidgihjfheaaDoor.TrP Go.Proofs.YtjobidgihjfheaaDoor.TrM Go.Proofs.YtjobidgihjfheaaDoor.TrC Go.Proofs.YtjobidgihjfheaaDoor.TrQ Go.Proofs.YtjobidgihjfheaaDoor.TrD Go.Proofs.YtjobidgihjfheaaDoor.TrS Go.Proofs.YtjobidgihjfheaaDoor.TrT Go.Proofs.YtjobidgihjfheaaDoor.TrW Go.Proofs.YtjobidgihjfheaaDoor.TrR

def Few (es : EntsV) (i : Nat) : Prop := es.length ≤ i ∧ (∀ e ∈ es, e.2.1.length ≤ 200) ∧ Ints es
theorem Few.add {es : EntsV} {i : Nat} (h : Few es i) (max : Int) (p : Tx) (hp : p.length ≤ 200) (z : Int) : Few (addT es max p (.int .i64 z)).2 (i + 1) := by
  refine ⟨?_, ?_, h.2.2.add max p z⟩
  · unfold addT
    split
    · exact Nat.le_succ_of_le h.1
    · split
      · exact Nat.le_succ_of_le h.1
      · split
        · exact Nat.le_succ_of_le h.1
        · have := h.1; simp; omega
  · unfold addT
    split
    · exact h.2.1
    · split
      · exact h.2.1
      · split
        · exact h.2.1
        · intro e he
          rcases List.mem_append.1 he with he | he
          · exact h.2.1 e he
          · simp at he; subst he; exact hp
theorem Few.nil (i : Nat) : Few [] i := ⟨Nat.zero_le _, by simp, Ints.nil⟩
theorem Few.long {es : EntsV} {i : Nat} (h : Few es i) : ∀ e ∈ es, e.2.1.length ≤ 1000000 := fun e he => Nat.le_trans (h.2.1 e he) (by decide)
def OPst (W : World) (tp : Nat) (max : Int) (es : EntsV) (path : List Tx) (R : Asn) (e : Ending) (w' : World) : Prop :=
  ∃ (z : Int) (p : Tx) (ps : List TrQ.Fd) (ok : Bool) (a : Option Addr) (n c : Nat), e = .returned (.tuple #[.int .i64 z, .slice a n c, .string ⟨p.toArray⟩, .bool ok]) ∧ ps.length = n ∧ Out (findT es path) z p ps ok ∧ St W w' (star (Row 33 2 (.slice a n c) n (fldV ps)) (star (IsT tp max es) R))
theorem Find_out {W w : World} {R : Asn} (tp : Nat) (max : Int) (es : EntsV) (h : St W w (star (IsT tp max es) R)) (i : Nat) (hf : Few es i) (hm : MaxLen W)
    (pa : Option Addr) (n pc : Nat) (path : List Tx) (hsl : Sl w 1 (.slice pa n pc) n (strsV path)) (hln : path.length = n) (hn : n ≤ 10000) (hb : ∀ x ∈ path, x.length ≤ 10000) :
    Calls Tryd.prog 11 #[.pointer (some ⟨tp, 0, none⟩), .slice pa n pc] w (OPst W tp max es path R) := by
  obtain ⟨_, _, _, _, hg, _⟩ := TrC.St.isT h
  refine (Find_any tp max es h hf.long hm pa n pc path hsl hln hn hb).mono ?_
  intro e w' hq
  cases hr : findT es path with
  | none =>
    obtain ⟨rfl, h2⟩ := fp_out hq hr
    exact ⟨0, [], [], false, none, 0, 0, rfl, rfl, .inl ⟨hr, rfl, rfl, rfl, rfl⟩, h2.nilRow⟩
  | some v =>
    obtain ⟨p, x, ps⟩ := v
    obtain ⟨a, c, rfl, h2⟩ := fp_at hq hr
    obtain ⟨k, _, _, hk, _⟩ := find_why hg hr
    obtain ⟨z, hz⟩ := hf.2.2 _ (getM_mem hk)
    simp only at hz
    subst hz
    exact ⟨z, p, ps, true, a, _, c, rfl, rfl, .inr ⟨hr, rfl⟩, h2⟩
set_option maxRecDepth 100000 in
set_option maxHeartbeats 64000000 in
theorem more_any {W : World} (hm : MaxLen W) (pa : Option Addr) (n pc : Nat) (l : List Tx) (hln : l.length = n) (hsl : Sl W 1 (.slice pa n pc) n (strsV l)) (hlm : ∀ x ∈ l, x.length ≤ maxLen) (mo : Tx) (hmo : mo.length ≤ 9223372036854775807)
    (qa : Option Addr) (m qc : Nat) (path : List Tx) (hlp : path.length = m) (hsp : Sl W 1 (.slice qa m qc) m (strsV path)) (hpm : ∀ x ∈ path, x.length ≤ maxLen) :
    Calls Tryd.prog 4 #[.slice pa n pc, .string ⟨mo.toArray⟩, .slice qa m qc] W (Law W emp) := by
  have h0 := St.start W
  have HM := Lib.hid hm
  have HWk := Lib.hid (wakes_any hm h0)
  have HLN := Lib.hid hln
  have HSL := Lib.hid hsl
  have HLM := Lib.hid hlm
  have HLP := Lib.hid hlp
  have HSP := Lib.hid hsp
  have hcap : n ≤ pc ∧ pc ≤ 9223372036854775807 := by obtain ⟨_, _, _, hv, h1, h2, _⟩ := hsl; cases hv; exact ⟨h1, by simpa [maxLen] using h2⟩
  have hcap2 : m ≤ qc ∧ qc ≤ 9223372036854775807 := by obtain ⟨_, _, _, hv, h1, h2, _⟩ := hsp; cases hv; exact ⟨h1, by simpa [maxLen] using h2⟩
  have HGr := Lib.hid (Great_any hsp hlp hpm)
  clear hm hln hsl hlm hlp hsp hpm
  by_cases h30 : 30 < n
  · have hd : decide (30 < (n : Int)) = true := decide_eq_true (by omega)
    clear h30
    go_enter Tryd.func4, Tryd.ntmps4
    go_wp2_with fail
    refine HWk.out.mono ?_
    rintro e w1 ⟨rfl, h1⟩
    go_wp2
    go_ret
    exact ⟨rfl, h1⟩
  · have hd : decide (30 < (n : Int)) = false := decide_eq_false (by omega)
    by_cases h2m : 200 < mo.length
    · have hdm : decide (200 < (mo.length : Int)) = true := decide_eq_true (by omega)
      clear h30 h2m
      go_enter Tryd.func4, Tryd.ntmps4
      go_wp2_with fail
      refine HWk.out.mono ?_
      rintro e w1 ⟨rfl, h1⟩
      go_wp2
      go_ret
      exact ⟨rfl, h1⟩
    · have hdm : decide (200 < (mo.length : Int)) = false := decide_eq_false (by omega)
      cases hg : greatP path with
      | true =>
        rw [hg] at HGr
        clear hg h30
        go_enter Tryd.func4, Tryd.ntmps4
        go_wp2_with fail
        refine HGr.out.mono ?_
        rintro e w1 ⟨rfl, rfl⟩
        go_wp2_with fail
        refine HWk.out.mono ?_
        rintro e w2 ⟨rfl, h1⟩
        go_wp2
        go_ret
        exact ⟨rfl, h1⟩
      | false =>
        rw [hg] at HGr
        have hgb := great_bounds hg
        have HGB : Hid (∀ x ∈ path, x.length ≤ 10000) := Lib.hid fun x hx => by have := hgb.2 x hx; omega
        have hm12 : m ≤ 10000 := by rw [← HLP.out]; have := hgb.1; omega
        clear hg hgb
        have HNw := Lib.hid (New_any 40 h0)
        go_enter Tryd.func4, Tryd.ntmps4
        go_wp2_with fail
        refine HGr.out.mono ?_
        rintro e w1 ⟨rfl, rfl⟩
        go_wp2_with fail
        refine HNw.out.mono ?_
        rintro e w2 ⟨tp, rfl, h2⟩
        clear h0 HNw HGr
        go_wp2_with fail
        go_loopw [8] (fun iv wr => ∃ (i : Nat) (es : EntsV), i ≤ n ∧ iv = .int .i64 i ∧ Hid (Few es i) ∧ St w1 wr (star (IsT tp 40 es) emp)) (fun iv _ => n - (intOf iv).toNat)
        case atStart => exact ⟨0, [], Nat.zero_le _, rfl, Lib.hid (Few.nil 0), h2⟩
        case round =>
          obtain ⟨i, es, hi, rfl, HF, hS⟩ := hrel
          clear h2
          by_cases hin : i < n
          · obtain ⟨x, hx⟩ : ∃ x, l[i]? = some x := ⟨_, List.getElem?_eq_getElem (by rw [HLN.out]; exact hin)⟩
            obtain ⟨ab, ao, rfl, hel⟩ := strs_at (sl_later HSL.out hS) hx
            have he := hel _ _ (St.start wr)
            have hxm := HLM.out x (List.mem_of_getElem? hx)
            unfold maxLen at hxm
            clear hel hx
            by_cases h200 : 200 < x.length
            · have hd2 : decide (200 < (x.length : Int)) = true := decide_eq_true (by omega)
              have HW3 := Lib.hid (wakes_any HM.out hS)
              clear h200
              go_wp2_with fail
              refine HW3.out.mono ?_
              rintro e w3 ⟨rfl, h3⟩
              clear he
              go_wp2
              go_ret
              exact ⟨rfl, h3.forget⟩
            · have hd2 : decide (200 < (x.length : Int)) = false := decide_eq_false (by omega)
              have HA := Lib.hid (Add_any tp 40 es hS (by have := HF.out.1; omega) HM.out x (by omega) (i : Int))
              have HF2 : Hid (Few (addT es 40 x (.int .i64 i)).2 (i + 1)) := Lib.hid (HF.out.add 40 x (by omega) _)
              generalize addT es 40 x (.int .i64 i) = r at *
              obtain ⟨r1, r2⟩ := r
              go_wp2_with fail
              refine HA.out.mono ?_
              rintro e w3 ⟨rfl, h3⟩
              clear he
              go_wp2_with fail
              exact ⟨⟨i + 1, r2, hin, by go_num, HF2, h3⟩, by simp [intOf]; omega⟩
          · obtain rfl : i = n := by omega
            have HFi := Lib.hid (Find_out tp 40 es hS i HF.out HM.out qa m qc path (sl_later HSP.out hS) HLP.out (by omega) HGB.out)
            clear hi hin
            obtain ⟨root, F, lv, hI, hG, -⟩ := TrC.St.isT hS
            have HG := Lib.hid hG
            clear hI hG hS
            go_wp2_with fail
            refine HFi.out.mono ?_
            rintro e w3 ⟨z, p, ps, ok, fa, fn, fc, rfl, hfn, hout, h3⟩
            have HOUT := Lib.hid hout
            have HFN := Lib.hid hfn
            clear hout hfn HFi
            have hpl : p.length ≤ 200 := by
              rcases HOUT.out with ⟨_, _, rfl, _⟩ | ⟨hf, _⟩
              · simp
              · obtain ⟨k, _, _, hk, _⟩ := find_why HG.out hf
                exact HF.out.2.1 _ (getM_mem hk)
            have hfcap : fn ≤ fc ∧ fc ≤ 9223372036854775807 := by obtain ⟨_, _, _, hv, h1, h2, _⟩ := h3.rowSl; cases hv; exact ⟨h1, by simpa [maxLen] using h2⟩
            have HOK : Hid (ok = true → findT es path = some (p, .int .i64 z, ps)) := Lib.hid (by
              intro e
              rcases HOUT.out with ⟨_, _, _, _, h⟩ | ⟨h, _⟩
              · rw [h] at e; cases e
              · exact h)
            have HNw := Lib.hid (New_any 1 h3)
            obtain ⟨r, hr⟩ : ∃ r, addT es 40 mo (.int .i64 (-1)) = r := ⟨_, rfl⟩
            obtain ⟨r1, es2⟩ := r
            have HFM := Lib.hid (find_more HG.out path mo (Value.int .i64 (-1)) hr)
            have HF2 : Hid (Few es2 (i + 1)) := Lib.hid (by have := HF.out.add 40 mo (by omega) (-1); rwa [hr] at this)
            have HADD : Hid (∀ w R', St w1 w (star (IsT tp 40 es) R') → _) := Lib.hid fun w R' h => by
              have := Add_any tp 40 es h (by have := HF.out.1; omega) HM.out mo (by omega) (-1)
              rw [hr] at this
              exact this
            clear hr
            cases ok
            · have h7 := h3
              clear h3 HNw
              have HA2 := Lib.hid (HADD.out _ _ h7.swap)
              clear h7
              go_wp2_with fail
              refine HA2.out.mono ?_
              rintro e w7 ⟨rfl, h8⟩
              clear HA2 HADD
              have HFi3 := Lib.hid (Find_out tp 40 es2 h8 (i + 1) HF2.out HM.out qa m qc path (sl_later HSP.out h8) HLP.out (by omega) HGB.out)
              go_wp2_with fail
              refine HFi3.out.mono ?_
              rintro e w8 ⟨z2, q, qs, is, ga, gn, gc, rfl, hgn, hout2, h9⟩
              clear HFi3
              have hgcap : gn ≤ gc ∧ gc ≤ 9223372036854775807 := by obtain ⟨_, _, _, hv, h1, h2, _⟩ := h9.rowSl; cases hv; exact ⟨h1, by simpa [maxLen] using h2⟩
              have HO9 := Lib.hid hout2
              have HGN := Lib.hid hgn
              have h10 := h9.eq (B := star (Row 33 2 (.slice fa fn fc) fn (fldV ps)) (star (Row 33 2 (.slice ga gn gc) gn (fldV qs)) (star (IsT tp 40 es2) emp))) (by ac_rfl)
              clear hgn hout2 h8
              rcases HFM.out with ⟨hd1, hd2⟩ | ⟨hr0, qs2, k2, hq1, hq2, hq3⟩
              · have hsame := HO9.out.same (by rw [hd1]; exact HOUT.out)
                obtain ⟨rfl, rfl, rfl, rfl⟩ := hsame
                have HSF := Lib.hid (sameFields_any h10.rowSl HFN.out h9.rowSl HGN.out)
                rw [decide_eq_true (rfl : qs = qs)] at HSF
                have hne : r1 ≠ 0 ∨ (r1 = 0 ∧ q ≠ mo) := by
                  by_cases h : r1 = 0
                  · right
                    refine ⟨h, ?_⟩
                    rcases hd2 with h2 | ⟨h2, h3⟩
                    · exact absurd h h2
                    · rcases HOUT.out with ⟨_, _, rfl, _⟩ | ⟨hf, _⟩
                      · exact fun e => h2 e.symm
                      · exact h3 _ hf
                  · exact .inl h
                clear hd1 hd2
                rcases hne with hr0 | ⟨rfl, hqm⟩
                · have hb1 : ((r1 : Int) != 0) = true := by simpa using hr0
                  have hb2 : ((r1 : Int) == 0) = false := by simpa using hr0
                  clear hr0
                  go_wp2_with fail
                  refine HSF.out.mono ?_
                  rintro e w9 hq
                  have h11 := hq.st h10
                  obtain ⟨rfl, -⟩ := hq
                  have HW3 := Lib.hid (wakes_any HM.out h11)
                  go_wp2_with fail
                  refine HW3.out.mono ?_
                  rintro e w10 ⟨rfl, h12⟩
                  go_wp2
                  go_ret
                  exact ⟨rfl, h12.forget⟩
                · have hb1 : (q == mo) = false := by simpa using hqm
                  have hb2 : (q != mo) = true := by simpa using hqm
                  clear hqm
                  go_wp2_with fail
                  refine HSF.out.mono ?_
                  rintro e w9 hq
                  have h11 := hq.st h10
                  obtain ⟨rfl, -⟩ := hq
                  have HW3 := Lib.hid (wakes_any HM.out h11)
                  go_wp2_with fail
                  refine HW3.out.mono ?_
                  rintro e w10 ⟨rfl, h12⟩
                  go_wp2
                  go_ret
                  exact ⟨rfl, h12.forget⟩
              · subst hr0
                have hsame := HO9.out.same (.inr ⟨hq1, rfl⟩)
                obtain ⟨rfl, rfl, rfl, rfl⟩ := hsame
                have HQ2 := Lib.hid hq2
                have HQ3 := Lib.hid hq3
                have HNw2 := Lib.hid (New_any 1 h10)
                have HFO2 : Hid (Few [(k2, q, Value.int .i64 (-1))] 1) := Lib.hid ⟨by simp, by intro e he; simp at he; subst he; simp only; omega, by intro e he; simp at he; subst he; exact ⟨-1, rfl⟩⟩
                clear hq1 hq2 hq3
                go_wp2_with fail
                refine HNw2.out.mono ?_
                rintro e w9 ⟨tp3, rfl, h11⟩
                have HA3 := Lib.hid (Add_any tp3 1 [] h11 (by simp) HM.out q (by omega) (-1))
                rw [HQ2.out] at HA3
                clear h9 h10 h11 HNw2
                go_wp2_with fail
                refine HA3.out.mono ?_
                rintro e w10 ⟨rfl, h12⟩
                have HFi4 := Lib.hid (Find_out tp3 1 _ h12 1 HFO2.out HM.out qa m qc path (sl_later HSP.out h12) HLP.out (by omega) HGB.out)
                clear HA3
                go_wp2_with fail
                refine HFi4.out.mono ?_
                rintro e w11 ⟨z4, q4, qs4, is4, ha, hn, hc, rfl, hhn, hout4, h13⟩
                have hsame := Out.same (.inr ⟨HQ3.out, rfl⟩) hout4
                obtain ⟨rfl, rfl, rfl, rfl⟩ := hsame
                have hhcap : hn ≤ hc ∧ hc ≤ 9223372036854775807 := by obtain ⟨_, _, _, hv, h1, h2, _⟩ := h13.rowSl; cases hv; exact ⟨h1, by simpa [maxLen] using h2⟩
                have HHN := Lib.hid hhn
                have h14 := h13.eq (B := star (Row 33 2 (.slice ga gn gc) gn (fldV qs)) (star (Row 33 2 (.slice ha hn hc) hn (fldV qs)) (star (IsT tp3 1 [(k2, q, Value.int .i64 (-1))]) (star (Row 33 2 (.slice fa fn fc) fn (fldV ps)) (star (IsT tp 40 es2) emp))))) (by ac_rfl)
                have HSF := Lib.hid (sameFields_any h14.rowSl HGN.out h13.rowSl HHN.out)
                rw [decide_eq_true (rfl : qs = qs)] at HSF
                clear HFi4 hout4 hhn h12
                go_wp2_with fail
                refine HSF.out.mono ?_
                rintro e w12 hq
                have h15 := hq.st h14
                obtain ⟨rfl, -⟩ := hq
                have HW3 := Lib.hid (wakes_any HM.out h15)
                go_wp2_with fail
                refine HW3.out.mono ?_
                rintro e w13 ⟨rfl, h16⟩
                go_wp2
                go_ret
                exact ⟨rfl, h16.forget⟩
            · obtain ⟨kk, ho1, ho2⟩ := find_own HG.out (HOK.out rfl)
              have HO1 := Lib.hid ho1
              have HO2 := Lib.hid ho2
              have HFO : Hid (Few [(kk, p, .int .i64 z)] 1) := Lib.hid ⟨by simp, by intro e he; simp at he; subst he; exact hpl, by intro e he; simp at he; subst he; exact ⟨z, rfl⟩⟩
              clear ho1 ho2
              go_wp2_with fail
              refine HNw.out.mono ?_
              rintro e w4 ⟨tp2, rfl, h4⟩
              have HA := Lib.hid (Add_any tp2 1 [] h4 (by simp) HM.out p (by omega) z)
              rw [HO1.out] at HA
              clear h3 h4 HNw
              go_wp2_with fail
              refine HA.out.mono ?_
              rintro e w5 ⟨rfl, h5⟩
              have HFi2 := Lib.hid (Find_out tp2 1 _ h5 1 HFO.out HM.out qa m qc path (sl_later HSP.out h5) HLP.out (by omega) HGB.out)
              clear HA
              go_wp2_with fail
              refine HFi2.out.mono ?_
              rintro e w6 ⟨z0, p0, ps0, ok0, oa, on, oc, rfl, hon, hout0, h6⟩
              have hsame := hout0.same (.inr ⟨HO2.out, rfl⟩)
              obtain ⟨rfl, rfl, rfl, rfl⟩ := hsame
              have hocap : on ≤ oc ∧ oc ≤ 9223372036854775807 := by obtain ⟨_, _, _, hv, h1, h2, _⟩ := h6.rowSl; cases hv; exact ⟨h1, by simpa [maxLen] using h2⟩
              have HON := Lib.hid hon
              have h6f := h6.eq (B := star (Row 33 2 (.slice fa fn fc) fn (fldV ps0)) (star (IsT tp 40 es) (star (Row 33 2 (.slice oa on oc) on (fldV ps0)) (star (IsT tp2 1 [(kk, p0, Value.int .i64 z0)]) emp)))) (by ac_rfl)
              have HSF0 := Lib.hid (sameFields_any h6f.rowSl HFN.out h6.rowSl HON.out)
              rw [decide_eq_true (rfl : ps0 = ps0)] at HSF0
              clear HFi2 hout0 hon h5
              go_wp2_with fail
              refine HSF0.out.mono ?_
              rintro e w6b hq
              have h7a := hq.st h6f
              obtain ⟨rfl, -⟩ := hq
              have h7 : St w1 w6b (star (Row 33 2 (.slice fa fn fc) fn (fldV ps0)) (star (IsT tp 40 es) emp)) := by
                have := (h7a.eq (star_assoc _ _ _).symm).left
                rwa [star_emp]
              clear h6 h6f h7a hocap
              have HA2 := Lib.hid (HADD.out _ _ h7.swap)
              clear h7
              go_wp2_with fail
              refine HA2.out.mono ?_
              rintro e w7 ⟨rfl, h8⟩
              clear HA2 HADD
              have HFi3 := Lib.hid (Find_out tp 40 es2 h8 (i + 1) HF2.out HM.out qa m qc path (sl_later HSP.out h8) HLP.out (by omega) HGB.out)
              go_wp2_with fail
              refine HFi3.out.mono ?_
              rintro e w8 ⟨z2, q, qs, is, ga, gn, gc, rfl, hgn, hout2, h9⟩
              clear HFi3
              have hgcap : gn ≤ gc ∧ gc ≤ 9223372036854775807 := by obtain ⟨_, _, _, hv, h1, h2, _⟩ := h9.rowSl; cases hv; exact ⟨h1, by simpa [maxLen] using h2⟩
              have HO9 := Lib.hid hout2
              have HGN := Lib.hid hgn
              have h10 := h9.eq (B := star (Row 33 2 (.slice fa fn fc) fn (fldV ps0)) (star (Row 33 2 (.slice ga gn gc) gn (fldV qs)) (star (IsT tp 40 es2) emp))) (by ac_rfl)
              clear hgn hout2 h8
              rcases HFM.out with ⟨hd1, hd2⟩ | ⟨hr0, qs2, k2, hq1, hq2, hq3⟩
              · have hsame := HO9.out.same (by rw [hd1]; exact HOUT.out)
                obtain ⟨rfl, rfl, rfl, rfl⟩ := hsame
                have HSF := Lib.hid (sameFields_any h10.rowSl HFN.out h9.rowSl HGN.out)
                rw [decide_eq_true (rfl : qs = qs)] at HSF
                have hne : r1 ≠ 0 ∨ (r1 = 0 ∧ q ≠ mo) := by
                  by_cases h : r1 = 0
                  · right
                    refine ⟨h, ?_⟩
                    rcases hd2 with h2 | ⟨h2, h3⟩
                    · exact absurd h h2
                    · rcases HOUT.out with ⟨_, _, rfl, _⟩ | ⟨hf, _⟩
                      · exact fun e => h2 e.symm
                      · exact h3 _ hf
                  · exact .inl h
                clear hd1 hd2
                rcases hne with hr0 | ⟨rfl, hqm⟩
                · have hb1 : ((r1 : Int) != 0) = true := by simpa using hr0
                  have hb2 : ((r1 : Int) == 0) = false := by simpa using hr0
                  clear hr0
                  go_wp2_with fail
                  refine HSF.out.mono ?_
                  rintro e w9 hq
                  have h11 := hq.st h10
                  obtain ⟨rfl, -⟩ := hq
                  have HW3 := Lib.hid (wakes_any HM.out h11)
                  go_wp2_with fail
                  refine HW3.out.mono ?_
                  rintro e w10 ⟨rfl, h12⟩
                  go_wp2
                  go_ret
                  exact ⟨rfl, h12.forget⟩
                · have hb1 : (q == mo) = false := by simpa using hqm
                  have hb2 : (q != mo) = true := by simpa using hqm
                  clear hqm
                  go_wp2_with fail
                  refine HSF.out.mono ?_
                  rintro e w9 hq
                  have h11 := hq.st h10
                  obtain ⟨rfl, -⟩ := hq
                  have HW3 := Lib.hid (wakes_any HM.out h11)
                  go_wp2_with fail
                  refine HW3.out.mono ?_
                  rintro e w10 ⟨rfl, h12⟩
                  go_wp2
                  go_ret
                  exact ⟨rfl, h12.forget⟩
              · subst hr0
                have hsame := HO9.out.same (.inr ⟨hq1, rfl⟩)
                obtain ⟨rfl, rfl, rfl, rfl⟩ := hsame
                have HQ2 := Lib.hid hq2
                have HQ3 := Lib.hid hq3
                have HNw2 := Lib.hid (New_any 1 h10)
                have HFO2 : Hid (Few [(k2, q, Value.int .i64 (-1))] 1) := Lib.hid ⟨by simp, by intro e he; simp at he; subst he; simp only; omega, by intro e he; simp at he; subst he; exact ⟨-1, rfl⟩⟩
                clear hq1 hq2 hq3
                go_wp2_with fail
                refine HNw2.out.mono ?_
                rintro e w9 ⟨tp3, rfl, h11⟩
                have HA3 := Lib.hid (Add_any tp3 1 [] h11 (by simp) HM.out q (by omega) (-1))
                rw [HQ2.out] at HA3
                clear h9 h10 h11 HNw2
                go_wp2_with fail
                refine HA3.out.mono ?_
                rintro e w10 ⟨rfl, h12⟩
                have HFi4 := Lib.hid (Find_out tp3 1 _ h12 1 HFO2.out HM.out qa m qc path (sl_later HSP.out h12) HLP.out (by omega) HGB.out)
                clear HA3
                go_wp2_with fail
                refine HFi4.out.mono ?_
                rintro e w11 ⟨z4, q4, qs4, is4, ha, hn, hc, rfl, hhn, hout4, h13⟩
                have hsame := Out.same (.inr ⟨HQ3.out, rfl⟩) hout4
                obtain ⟨rfl, rfl, rfl, rfl⟩ := hsame
                have hhcap : hn ≤ hc ∧ hc ≤ 9223372036854775807 := by obtain ⟨_, _, _, hv, h1, h2, _⟩ := h13.rowSl; cases hv; exact ⟨h1, by simpa [maxLen] using h2⟩
                have HHN := Lib.hid hhn
                have h14 := h13.eq (B := star (Row 33 2 (.slice ga gn gc) gn (fldV qs)) (star (Row 33 2 (.slice ha hn hc) hn (fldV qs)) (star (IsT tp3 1 [(k2, q, Value.int .i64 (-1))]) (star (Row 33 2 (.slice fa fn fc) fn (fldV ps0)) (star (IsT tp 40 es2) emp))))) (by ac_rfl)
                have HSF := Lib.hid (sameFields_any h14.rowSl HGN.out h13.rowSl HHN.out)
                rw [decide_eq_true (rfl : qs = qs)] at HSF
                clear HFi4 hout4 hhn h12
                go_wp2_with fail
                refine HSF.out.mono ?_
                rintro e w12 hq
                have h15 := hq.st h14
                obtain ⟨rfl, -⟩ := hq
                have HW3 := Lib.hid (wakes_any HM.out h15)
                go_wp2_with fail
                refine HW3.out.mono ?_
                rintro e w13 ⟨rfl, h16⟩
                go_wp2
                go_ret
                exact ⟨rfl, h16.forget⟩
theorem more_walk {W : World} (hm : MaxLen W) (pa : Option Addr) (n pc : Nat) (l : List Tx) (hln : l.length = n) (hsl : Sl W 1 (.slice pa n pc) n (l.flatMap Str.E)) (hok : ∀ x ∈ l, Str.Ok x) (mo : Tx) (hmo : (⟨mo.toArray⟩ : ByteArray).size ≤ maxLen)
    (qa : Option Addr) (m qc : Nat) (path : List Tx) (hlp : path.length = m) (hsp : Sl W 1 (.slice qa m qc) m (path.flatMap Str.E)) (hpk : ∀ x ∈ path, Str.Ok x) :
    Calls Tryd.prog 4 #[.slice pa n pc, .string ⟨mo.toArray⟩, .slice qa m qc] W (Law W emp) :=
  more_any hm pa n pc l hln (by rw [← strsV_E]; exact hsl) hok mo (by simpa [maxLen, ByteArray.size] using hmo) qa m qc path hlp (by rw [← strsV_E]; exact hsp) hpk
end Go.Proofs.YtjobidgihjfheaaDoor.TrG
