import Derived.Test.YtjobidgihjfheaaDoorTrW
import Derived.Test.YtjobidgihjfheaaDoorTrEs
import Derived.Test.YtjobidgihjfheaaDoorTrU
namespace Go.Proofs.YtjobidgihjfheaaDoor.TrH
open Go Go.RowKit Go.Proofs Go.Proofs.YtjobidgihjfheaaDoor.Sep Go.Proofs.YtjobidgihjfheaaDoor.Reg Go.Proofs.YtjobidgihjfheaaDoor.Frame Go.Proofs.YtjobidgihjfheaaDoor.Strs Go.Proofs.YtjobidgihjfheaaDoor.PathP Go.Proofs.YtjobidgihjfheaaDoor.Mp Go.Proofs.YtjobidgihjfheaaDoor.TrP Go.Proofs.YtjobidgihjfheaaDoor.TrM Go.Proofs.YtjobidgihjfheaaDoor.TrCs Go.Proofs.YtjobidgihjfheaaDoor.TrQ Go.Proofs.YtjobidgihjfheaaDoor.TrS Go.Proofs.YtjobidgihjfheaaDoor.TrT Go.Proofs.YtjobidgihjfheaaDoor.TrR Go.Proofs.YtjobidgihjfheaaDoor.TrU

def Few (es : EntsV) (i : Nat) : Prop := es.length ≤ i ∧ (∀ e ∈ es, e.2.1.length ≤ 200) ∧ Self es
theorem Few.add {es : EntsV} {i : Nat} (h : Few es i) (max : Int) (p : Tx) (hp : p.length ≤ 200) : Few (addT es max p (.string ⟨p.toArray⟩)).2 (i + 1) := by
  refine ⟨?_, ?_, h.2.2.add max p⟩
  · unfold addT
    split
    · exact Nat.le_succ_of_le h.1
    · split
      · exact Nat.le_succ_of_le h.1
      · split
        · exact Nat.le_succ_of_le h.1
        · have := h.1; simp; omega
  · unfold addT
    split
    · exact h.2.1
    · split
      · exact h.2.1
      · split
        · exact h.2.1
        · intro e he
          rcases List.mem_append.1 he with he | he
          · exact h.2.1 e he
          · simp at he; subst he; exact hp
theorem Few.nil (i : Nat) : Few [] i := ⟨Nat.zero_le _, by simp, Self.nil⟩
def OPst (W : World) (tp : Nat) (max : Int) (es : EntsV) (path : List Tx) (R : Asn) (e : Ending) (w' : World) : Prop :=
  ∃ (p : Tx) (ps : List TrQ.Fd) (ok : Bool) (a : Option Addr) (n c : Nat), e = .returned (.tuple #[.string ⟨p.toArray⟩, .slice a n c, .string ⟨p.toArray⟩, .bool ok]) ∧ ps.length = n ∧ OutS (findT es path) p ps ok ∧ St W w' (star (Row 33 2 (.slice a n c) n (fldV ps)) (star (IsT tp max es) R))
theorem Find_out {W w : World} {R : Asn} (tp : Nat) (max : Int) (es : EntsV) (h : St W w (star (IsT tp max es) R)) (hs : Self es) (hl : ∀ e ∈ es, e.2.1.length ≤ 200) (hm : MaxLen W)
    (pa : Option Addr) (n pc : Nat) (path : List Tx) (hsl : Sl w 1 (.slice pa n pc) n (strsV path)) (hln : path.length = n) (hn : n ≤ 10000) (hb : ∀ x ∈ path, x.length ≤ 10000) :
    Calls Tryd.prog 16 #[.pointer (some ⟨tp, 0, none⟩), .slice pa n pc] w (OPst W tp max es path R) := by
  obtain ⟨_, _, _, _, hg, _⟩ := TrCs.St.isT h
  refine (TrDs.Find_any tp max es h (fun e he => Nat.le_trans (hl e he) (by decide)) hm pa n pc path hsl hln hn hb).mono ?_
  intro e w' hq
  unfold TrDs.FPost at hq
  cases hr : findT es path with
  | none =>
    rw [hr] at hq
    obtain ⟨rfl, h2⟩ := hq
    exact ⟨[], [], false, none, 0, 0, rfl, rfl, .inl ⟨hr, rfl, rfl, rfl⟩, h2.nilRow⟩
  | some v =>
    obtain ⟨p, x, ps⟩ := v
    rw [hr] at hq
    obtain ⟨a, c, rfl, h2⟩ := hq
    obtain ⟨k, _, _, hk, _⟩ := find_why hg hr
    have hz := hs _ (getM_mem hk)
    simp only at hz
    subst hz
    exact ⟨p, ps, true, a, _, c, rfl, rfl, .inr ⟨hr, rfl⟩, h2⟩
theorem self_ents (l : List Tx) : Self (entsOf l) := by
  intro e he
  obtain ⟨p, _, rfl⟩ := List.mem_map.1 he
  rfl
theorem turn_nat (t : Int) (n : Nat) (h : 0 < n) : ∃ k : Nat, k < n ∧ ((Int.tmod t n < 0 ∧ Int.tmod t n + n = k) ∨ (0 ≤ Int.tmod t n ∧ Int.tmod t n = k)) := by
  have h1 : -(n : Int) < Int.tmod t n := by
    have := Int.lt_tmod_of_pos t (show (0 : Int) < n by omega)
    omega
  have h2 : Int.tmod t n < n := Int.tmod_lt_of_pos t (by omega)
  by_cases h0 : Int.tmod t n < 0
  · exact ⟨(Int.tmod t n + n).toNat, by omega, .inl ⟨h0, by omega⟩⟩
  · exact ⟨(Int.tmod t n).toNat, by omega, .inr ⟨by omega, by omega⟩⟩
set_option maxRecDepth 100000 in
set_option maxHeartbeats 64000000 in
theorem order_any {W : World} (hm : MaxLen W) (pa : Option Addr) (n pc : Nat) (l : List Tx) (hln : l.length = n) (hsl : Sl W 1 (.slice pa n pc) n (strsV l)) (hlm : ∀ x ∈ l, x.length ≤ maxLen) (turn : Int) (hturn : -9223372036854775808 ≤ turn ∧ turn ≤ 9223372036854775807)
    (qa : Option Addr) (m qc : Nat) (path : List Tx) (hlp : path.length = m) (hsp : Sl W 1 (.slice qa m qc) m (strsV path)) (hpm : ∀ x ∈ path, x.length ≤ maxLen) :
    Calls Tryd.prog 5 #[.slice pa n pc, .int .i64 turn, .slice qa m qc] W (Law W emp) := by
  have h0 := St.start W
  have HM := Lib.hid hm
  have HWk := Lib.hid (TrW.wakes_any hm h0)
  have HLN := Lib.hid hln
  have HSL := Lib.hid hsl
  have HLM := Lib.hid hlm
  have HLP := Lib.hid hlp
  have HSP := Lib.hid hsp
  have hcap : n ≤ pc ∧ pc ≤ 9223372036854775807 := by obtain ⟨_, _, _, hv, h1, h2, _⟩ := hsl; cases hv; exact ⟨h1, by simpa [maxLen] using h2⟩
  have hcap2 : m ≤ qc ∧ qc ≤ 9223372036854775807 := by obtain ⟨_, _, _, hv, h1, h2, _⟩ := hsp; cases hv; exact ⟨h1, by simpa [maxLen] using h2⟩
  have HGr := Lib.hid (Great_any hsp hlp hpm)
  have HTN := Lib.hid hturn
  clear hm hln hsl hlm hlp hsp hpm hturn
  by_cases h30 : 30 < n
  · have hd : decide (30 < (n : Int)) = true := decide_eq_true (by omega)
    clear h30
    go_enter Tryd.func5, Tryd.ntmps5
    go_wp2_with fail
    refine HWk.out.mono ?_
    rintro e w1 ⟨rfl, h1⟩
    go_wp2
    go_ret
    exact ⟨rfl, h1⟩
  · have hd : decide (30 < (n : Int)) = false := decide_eq_false (by omega)
    cases hg : greatP path with
    | true =>
      rw [hg] at HGr
      clear hg h30
      go_enter Tryd.func5, Tryd.ntmps5
      go_wp2_with fail
      refine HGr.out.mono ?_
      rintro e w1 ⟨rfl, rfl⟩
      go_wp2_with fail
      refine HWk.out.mono ?_
      rintro e w2 ⟨rfl, h1⟩
      go_wp2
      go_ret
      exact ⟨rfl, h1⟩
    | false =>
      rw [hg] at HGr
      have hgb := great_bounds hg
      have HGB : Hid (∀ x ∈ path, x.length ≤ 10000) := Lib.hid fun x hx => by have := hgb.2 x hx; omega
      have hm12 : m ≤ 10000 := by rw [← HLP.out]; have := hgb.1; omega
      clear hg hgb
      have HNw := Lib.hid (New_any 40 h0)
      go_enter Tryd.func5, Tryd.ntmps5
      go_wp2_with fail
      refine HGr.out.mono ?_
      rintro e w1 ⟨rfl, rfl⟩
      go_wp2_with fail
      refine HNw.out.mono ?_
      rintro e w2 ⟨tp, rfl, h2⟩
      clear h0 HNw HGr
      go_wp2_with fail
      go_loopw [8] (fun iv wr => ∃ (i : Nat) (es : EntsV), i ≤ n ∧ iv = .int .i64 i ∧ Hid (Few es i) ∧ St w1 wr (star (IsT tp 40 es) emp)) (fun iv _ => n - (intOf iv).toNat)
      case atStart => exact ⟨0, [], Nat.zero_le _, rfl, Lib.hid (Few.nil 0), h2⟩
      case round =>
        obtain ⟨i, es, hi, rfl, HF, hS⟩ := hrel
        clear h2
        by_cases hin : i < n
        · obtain ⟨x, hx⟩ : ∃ x, l[i]? = some x := ⟨_, List.getElem?_eq_getElem (by rw [HLN.out]; exact hin)⟩
          obtain ⟨ab, ao, rfl, hel⟩ := strs_at (sl_later HSL.out hS) hx
          have he := hel _ _ (St.start wr)
          have he2 := hel _ _ (St.start wr).drew
          have hxm := HLM.out x (List.mem_of_getElem? hx)
          unfold maxLen at hxm
          clear hel hx
          by_cases h200 : 200 < x.length
          · have hd2 : decide (200 < (x.length : Int)) = true := decide_eq_true (by omega)
            have HW3 := Lib.hid (TrW.wakes_any HM.out hS)
            clear h200
            go_wp2_with fail
            refine HW3.out.mono ?_
            rintro e w3 ⟨rfl, h3⟩
            clear he
            go_wp2
            go_ret
            exact ⟨rfl, h3.forget⟩
          · have hd2 : decide (200 < (x.length : Int)) = false := decide_eq_false (by omega)
            have HA := Lib.hid (Add_any tp 40 es hS.drew (by have := HF.out.1; omega) HM.out x (by omega) x)
            have HF2 : Hid (Few (addT es 40 x (.string ⟨x.toArray⟩)).2 (i + 1)) := Lib.hid (HF.out.add 40 x (by omega))
            generalize addT es 40 x (.string ⟨x.toArray⟩) = r at *
            obtain ⟨r1, r2⟩ := r
            go_wp2_with fail
            refine wp_region_canon [0, 1, 2, 3, 4, 5, 6, 7, 8, 9] (by kernel_rfl) (by kernel_rfl) ?_
            simp only [pickOps, nthOp]
            go_wp2_with fail
            refine HA.out.mono ?_
            rintro e w3 ⟨rfl, h3⟩
            clear he he2
            go_wp2_with fail
            simp only [Only]
            go_wp2_with fail
            exact ⟨⟨i + 1, r2, hin, by go_num, HF2, h3⟩, by simp [intOf]; omega⟩
        · obtain rfl : i = n := by omega
          clear hi hin
          have hel := HF.out.1
          have HAll := Lib.hid (TrEs.All_any tp 40 es hS (by omega))
          obtain ⟨root, F, lv, hI, hG, -⟩ := TrCs.St.isT hS
          have HKN : Hid (((es.map fun e => e.2.1).map keyP).Nodup) := Lib.hid (keyP_nodup hG HF.out.2.2)
          have HPS : Hid (∀ p ∈ es.map (fun e => e.2.1), (∃ k, splitP p = some k) ∧ p.length ≤ 200) := Lib.hid (by
            intro p hp
            obtain ⟨e, he, rfl⟩ := List.mem_map.1 hp
            obtain ⟨k, hk, _⟩ := hG.2 e he
            exact ⟨⟨k, hk⟩, HF.out.2.1 e he⟩)
          have HEP : Hid (entsOf (es.map fun e => e.2.1) = es) := Lib.hid (ents_pats hG HF.out.2.2)
          clear hI hG hS
          go_wp2_with fail
          refine HAll.out.mono ?_
          rintro e w3 ⟨la, lc, rfl, h3⟩
          rw [show pats es = es.map fun e => e.2.1 from rfl] at h3
          obtain ⟨N, hN⟩ : ∃ N, es.length = N := ⟨_, rfl⟩
          obtain ⟨L, hL⟩ : ∃ L, (es.map fun e => e.2.1) = L := ⟨_, rfl⟩
          have HLL : Hid (L.length = N) := Lib.hid (by rw [← hL, List.length_map, hN])
          rw [hL] at HKN HPS HEP h3
          rw [hN] at h3 hel
          rw [hN]
          clear hN hL HAll
          have hcapN : N ≤ lc ∧ lc ≤ 9223372036854775807 := by obtain ⟨_, _, _, hv, h1, h2, _⟩ := h3.rowSl; cases hv; exact ⟨h1, by simpa [maxLen] using h2⟩
          have HNw := Lib.hid (New_any 40 h3)
          go_wp2_with fail
          refine HNw.out.mono ?_
          rintro e w4 ⟨bp, rfl, h4⟩
          have HNw2 := Lib.hid (New_any 40 h4)
          clear h3 HNw
          go_wp2_with fail
          refine HNw2.out.mono ?_
          rintro e w5 ⟨cp, rfl, h5⟩
          clear h4 HNw2
          have hkk : ∃ kk : Nat, (0 < N → kk < N ∧ ((Int.tmod turn N < 0 ∧ Int.tmod turn N + N = kk) ∨ (0 ≤ Int.tmod turn N ∧ Int.tmod turn N = kk))) := by
            by_cases h : 0 < N
            · obtain ⟨k, h1, h2⟩ := turn_nat turn N h
              exact ⟨k, fun _ => ⟨h1, h2⟩⟩
            · exact ⟨0, fun h2 => absurd h2 h⟩
          obtain ⟨kk, hkk⟩ := hkk
          have HKK := Lib.hid hkk
          clear hkk
          go_wp2_with fail
          go_loopw [12] (fun iv wr => ∃ (i2 : Nat), i2 ≤ N ∧ iv = .int .i64 i2 ∧ St w1 wr (star (IsT cp 40 (entsOf (L.reverse.take i2))) (star (IsT bp 40 (entsOf ((rot L kk).take i2))) (star (Row 9 1 (.slice la N lc) N (strsV L)) (star (IsT tp 40 es) emp))))) (fun iv _ => N - (intOf iv).toNat)
          case atStart => exact ⟨0, Nat.zero_le _, rfl, h5⟩
          case round =>
            obtain ⟨i2, hi2, rfl, hS⟩ := hrel
            clear h5
            by_cases hin2 : i2 < N
            · obtain ⟨hkN, hkk⟩ := HKK.out (by omega)
              have hmodN : (i2 + kk) % N < N := Nat.mod_lt _ (by omega)
              obtain ⟨p, hp⟩ : ∃ p, L[(i2 + kk) % N]? = some p := ⟨_, List.getElem?_eq_getElem (by rw [HLL.out]; exact hmodN)⟩
              obtain ⟨q, hq⟩ : ∃ q, L[N - 1 - i2]? = some q := ⟨_, List.getElem?_eq_getElem (by rw [HLL.out]; omega)⟩
              have hpr : (rot L kk)[i2]? = some p := by rw [rot_get L kk i2 (by rw [HLL.out]; exact hkN) (by rw [HLL.out]; exact hin2), HLL.out]; exact hp
              have hqr : L.reverse[i2]? = some q := by
                rw [List.getElem?_reverse (by rw [HLL.out]; exact hin2), HLL.out]; exact hq
              obtain ⟨hps, hpl⟩ := HPS.out p (List.mem_of_getElem? hp)
              obtain ⟨hqs, hql⟩ := HPS.out q (List.mem_of_getElem? hq)
              have ha1 := add_next ((((rot_perm L kk).map keyP).nodup_iff).2 HKN.out) hpr hps (by omega)
              have ha2 := add_next ((((List.reverse_perm L).map keyP).nodup_iff).2 HKN.out) hqr hqs (by omega)
              have hlb1 : (entsOf ((rot L kk).take i2)).length ≤ 1000000 := by unfold entsOf; rw [List.length_map, List.length_take]; omega
              have hlb2 : (entsOf (L.reverse.take i2)).length ≤ 1000000 := by unfold entsOf; rw [List.length_map, List.length_take]; omega
              have hrow := hS.right.right.rowSl
              obtain ⟨ab, ao, rfl, hel1⟩ := strs_at hrow hp
              obtain ⟨ab', ao', e', hel2⟩ := strs_at hrow hq
              cases e'
              have he1 := hel1 _ _ (St.start wr)
              have he2 := hel2 _ _ (St.start wr)
              have HA1 := Lib.hid (Add_any bp 40 _ (hS.swap) hlb1 HM.out p (by omega) p)
              rw [ha1] at HA1
              have HA2 : Hid (∀ w R', St w1 w (star (IsT cp 40 (entsOf (L.reverse.take i2))) R') → _) := Lib.hid fun w R' h => by
                have := Add_any cp 40 _ h hlb2 HM.out q (by omega) q
                rw [ha2] at this
                exact this
              have hrem : Int.tmod ((i2 : Int) + (kk : Int)) (N : Int) = (((i2 + kk) % N : Nat) : Int) := by
                rw [Int.tmod_eq_emod_of_nonneg (by omega)]
                simp
              have hsub : (N : Int) - 1 - (i2 : Int) = ((N - 1 - i2 : Nat) : Int) := by omega
              have hN0 : ((N : Int) == 0) = false := by simp; omega
              generalize hI1 : (i2 + kk) % N = I1 at *
              generalize hI2 : N - 1 - i2 = I2 at *
              have hI2N : I2 < N := by omega
              clear ha1 ha2 hlb1 hlb2 hrow hel1 hel2 hpr hqr hps hqs hp hq hI1 hI2
              have hk1 : -(N : Int) < Int.tmod turn N := by
                have := Int.lt_tmod_of_pos turn (show (0 : Int) < N by omega)
                omega
              have hk2 : Int.tmod turn N < N := Int.tmod_lt_of_pos turn (by omega)
              rcases hkk with ⟨hk0, hke⟩ | ⟨hk0, hke⟩
              · have hdk : decide (Int.tmod turn N < 0) = true := decide_eq_true hk0
                clear hk0
                go_wp2_with fail
                refine HA1.out.mono ?_
                rintro e w6 ⟨rfl, h6⟩
                have HA3 := Lib.hid (HA2.out _ _ h6.swap)
                clear he1 he2
                go_wp2_with fail
                refine HA3.out.mono ?_
                rintro e w7 ⟨rfl, h7⟩
                go_wp2_with fail
                exact ⟨⟨i2 + 1, hin2, by go_num, h7⟩, by simp [intOf]; omega⟩
              · have hdk : decide ((kk : Int) < 0) = false := decide_eq_false (by omega)
                clear hk0 hk1 hk2
                go_wp2_with fail
                refine HA1.out.mono ?_
                rintro e w6 ⟨rfl, h6⟩
                have HA3 := Lib.hid (HA2.out _ _ h6.swap)
                clear he1 he2
                go_wp2_with fail
                refine HA3.out.mono ?_
                rintro e w7 ⟨rfl, h7⟩
                go_wp2_with fail
                exact ⟨⟨i2 + 1, hin2, by go_num, h7⟩, by simp [intOf]; omega⟩
            · obtain rfl : i2 = N := by omega
              have e1 : L.reverse.take i2 = L.reverse := List.take_of_length_le (by rw [List.length_reverse, HLL.out]; exact Nat.le_refl _)
              have e2 : (rot L kk).take i2 = rot L kk := List.take_of_length_le (by rw [(rot_perm L kk).length_eq, HLL.out]; exact Nat.le_refl _)
              rw [e1, e2] at hS
              have HS1 : Hid (findT (entsOf (rot L kk)) path = findT es path) := Lib.hid (by rw [same_find (rot_perm L kk) HKN.out, HEP.out])
              have HS2 : Hid (findT (entsOf L.reverse) path = findT es path) := Lib.hid (by rw [same_find (List.reverse_perm L) HKN.out, HEP.out])
              have hlen : ∀ M : List Tx, M.Perm L → ∀ e ∈ entsOf M, e.2.1.length ≤ 200 := by
                intro M hM e he
                obtain ⟨p, hp, rfl⟩ := List.mem_map.1 he
                exact (HPS.out p (hM.mem_iff.1 hp)).2
              have HL1 := Lib.hid (hlen _ (rot_perm L kk))
              have HL2 := Lib.hid (hlen _ (List.reverse_perm L))
              have h8 := hS.eq (B := star (IsT tp 40 es) (star (IsT bp 40 (entsOf (rot L kk))) (star (IsT cp 40 (entsOf L.reverse)) (star (Row 9 1 (.slice la i2 lc) i2 (strsV L)) emp)))) (by ac_rfl)
              have HFi := Lib.hid (Find_out tp 40 es h8 HF.out.2.2 HF.out.2.1 HM.out qa m qc path (sl_later HSP.out hS) HLP.out (by omega) HGB.out)
              clear hi2 hin2 HKK hlen e1 e2 hS h8
              generalize rot L kk = M1 at *
              generalize L.reverse = M2 at *
              go_wp2_with fail
              refine HFi.out.mono ?_
              rintro e w6 ⟨p, ps, ok, fa, fn, fc, rfl, hfn, hout, h6⟩
              have hfcap : fn ≤ fc ∧ fc ≤ 9223372036854775807 := by obtain ⟨_, _, _, hv, h1, h2, _⟩ := h6.rowSl; cases hv; exact ⟨h1, by simpa [maxLen] using h2⟩
              have HOUT := Lib.hid hout
              have HFN := Lib.hid hfn
              clear hout hfn HFi
              have h7 := h6.eq (B := star (IsT bp 40 (entsOf M1)) (star (IsT cp 40 (entsOf M2)) (star (Row 33 2 (.slice fa fn fc) fn (fldV ps)) (star (IsT tp 40 es) (star (Row 9 1 (.slice la i2 lc) i2 (strsV L)) emp))))) (by ac_rfl)
              have HFi := Lib.hid (Find_out bp 40 _ h7 (self_ents M1) HL1.out HM.out qa m qc path (sl_later HSP.out h7) HLP.out (by omega) HGB.out)
              clear h6
              go_wp2_with fail
              refine HFi.out.mono ?_
              rintro e w7 ⟨p2, ps2, ok2, ga, gn, gc, rfl, hgn, hout, h8⟩
              rw [HS1.out] at hout
              obtain ⟨rfl, rfl, rfl⟩ := HOUT.out.same hout
              have hgcap : gn ≤ gc ∧ gc ≤ 9223372036854775807 := by obtain ⟨_, _, _, hv, h1, h2, _⟩ := h8.rowSl; cases hv; exact ⟨h1, by simpa [maxLen] using h2⟩
              have HGN := Lib.hid hgn
              clear hout hgn HFi h7
              have h9 := h8.eq (B := star (IsT cp 40 (entsOf M2)) (star (Row 33 2 (.slice ga gn gc) gn (fldV ps)) (star (Row 33 2 (.slice fa fn fc) fn (fldV ps)) (star (IsT bp 40 (entsOf M1)) (star (IsT tp 40 es) (star (Row 9 1 (.slice la i2 lc) i2 (strsV L)) emp)))))) (by ac_rfl)
              have HFi := Lib.hid (Find_out cp 40 _ h9 (self_ents M2) HL2.out HM.out qa m qc path (sl_later HSP.out h9) HLP.out (by omega) HGB.out)
              clear h8
              go_wp2_with fail
              refine HFi.out.mono ?_
              rintro e w8 ⟨p3, ps3, ok3, ha, hn, hc, rfl, hhn, hout, h10⟩
              rw [HS2.out] at hout
              obtain ⟨rfl, rfl, rfl⟩ := HOUT.out.same hout
              have hhcap : hn ≤ hc ∧ hc ≤ 9223372036854775807 := by obtain ⟨_, _, _, hv, h1, h2, _⟩ := h10.rowSl; cases hv; exact ⟨h1, by simpa [maxLen] using h2⟩
              have HHN := Lib.hid hhn
              clear hout hhn HFi h9
              have h11 := h10.eq (B := star (Row 33 2 (.slice fa fn fc) fn (fldV ps)) (star (Row 33 2 (.slice ga gn gc) gn (fldV ps)) (star (Row 33 2 (.slice ha hn hc) hn (fldV ps)) (star (IsT cp 40 (entsOf M2)) (star (IsT bp 40 (entsOf M1)) (star (IsT tp 40 es) (star (Row 9 1 (.slice la i2 lc) i2 (strsV L)) emp))))))) (by ac_rfl)
              have HSF := Lib.hid (sameFields_any h11.rowSl HFN.out h11.right.rowSl HGN.out)
              rw [decide_eq_true (rfl : ps = ps)] at HSF
              clear h10
              cases ok
              all_goals
                go_wp2_with fail
                refine HSF.out.mono ?_
                rintro e w9 hq
                have h12 := hq.st h11
                obtain ⟨rfl, -⟩ := hq
                have HSF2 := Lib.hid (sameFields_any h12.rowSl HFN.out h12.right.right.rowSl HHN.out)
                rw [decide_eq_true (rfl : ps = ps)] at HSF2
                go_wp2_with fail
                refine HSF2.out.mono ?_
                rintro e w10 hq
                have h13 := hq.st h12
                obtain ⟨rfl, -⟩ := hq
                have HW3 := Lib.hid (TrW.wakes_any HM.out h13)
                go_wp2_with fail
                refine HW3.out.mono ?_
                rintro e w11 ⟨rfl, h14⟩
                go_wp2
                go_ret
                exact ⟨rfl, h14.forget⟩
theorem order_walk {W : World} (hm : MaxLen W) (pa : Option Addr) (n pc : Nat) (l : List Tx) (hln : l.length = n) (hsl : Sl W 1 (.slice pa n pc) n (l.flatMap Str.E)) (hok : ∀ x ∈ l, Str.Ok x) (turn : Int) (hturn : (Lit.int .i64 turn).wf = true)
    (qa : Option Addr) (m qc : Nat) (path : List Tx) (hlp : path.length = m) (hsp : Sl W 1 (.slice qa m qc) m (path.flatMap Str.E)) (hpk : ∀ x ∈ path, Str.Ok x) :
    Calls Tryd.prog 5 #[.slice pa n pc, .int .i64 turn, .slice qa m qc] W (Law W emp) :=
  order_any hm pa n pc l hln (by rw [← strsV_E]; exact hsl) hok turn (by simpa [Lit.wf, IntKind.min, IntKind.max, IntKind.signed, IntKind.bits] using hturn) qa m qc path hlp (by rw [← strsV_E]; exact hsp) hpk
end Go.Proofs.YtjobidgihjfheaaDoor.TrH
