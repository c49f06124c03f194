import Derived.Test.YtdobgebdlbckoaaGreatDoorTpK
import Derived.Test.YtdobgebdlbckoaaGreatDoorSure
namespace Go.Proofs.YtdobgebdlbckoaaGreatDoor.TpL
open Go Go.RowKit Go.Proofs Go.Proofs.YtdobgebdlbckoaaGreatDoor.Sep Go.Proofs.YtdobgebdlbckoaaGreatDoor.Reg Go.Proofs.YtdobgebdlbckoaaGreatDoor.Frame Go.Proofs.YtdobgebdlbckoaaGreatDoor.Slc Go.Proofs.YtdobgebdlbckoaaGreatDoor.Mp Go.Proofs.YtdobgebdlbckoaaGreatDoor.Ms Go.Proofs.YtdobgebdlbckoaaGreatDoor.Held Go.Proofs.YtdobgebdlbckoaaGreatDoor.TpP Go.Proofs.YtdobgebdlbckoaaGreatDoor.TpA Go.Proofs.YtdobgebdlbckoaaGreatDoor.TpB Go.Proofs.YtdobgebdlbckoaaGreatDoor.TpI Go.Proofs.YtdobgebdlbckoaaGreatDoor.TpJ Go.Proofs.YtdobgebdlbckoaaGreatDoor.TpK

def addP (l : List Pr) (t : Tx) (k : Int) : List Pr := if (t, k) ∈ l then l else l ++ [(t, k)]
/-- What is read of a registry's map of topics, and of the other one. -/
def CW (p bw : Nat) (t : Tx) (v : Value) (w : World) : Prop := w.cell? ⟨p, 0, none⟩ = some (.map (some bw)) ∧ (Instr.lookup 99 (.map (some bw)) (kS t) false).run Tryz.prog w = .ok v w
def CH (p bh : Nat) (k : Int) (v : Value) (w : World) : Prop := w.cell? ⟨p, 1, none⟩ = some (.map (some bh)) ∧ (Instr.lookup 35 (.map (some bh)) (kI k) false).run Tryz.prog w = .ok v w
theorem cw_of {W w : World} {p bw : Nat} {x : Value} {es : List (Tx × Value)} {A : Asn} (t : Tx) (h : St W w (star (Mp kS bw es) (star (pt p (.cells #[.map (some bw), x] 101 (0, 0))) A))) : CW p bw t ((getM t es).getD nilS) w :=
  ⟨h.right.cell 0 rfl, run_lookup (P := Tryz.prog) (t := 99) cS Tryz.underlying99 Tryz.underlying9 (Tryz.zeroValue33 w) h t false⟩
theorem ch_of {W w : World} {p bh : Nat} {x : Value} {es : List (Int × Value)} {A : Asn} (k : Int) (h : St W w (star (Mp kI bh es) (star (pt p (.cells #[x, .map (some bh)] 101 (0, 0))) A))) : CH p bh k ((getM k es).getD nilS) w :=
  ⟨h.right.cell 1 rfl, run_lookup (P := Tryz.prog) (t := 35) cI Tryz.underlying35 Tryz.underlying3 (Tryz.zeroValue36 w) h k false⟩
theorem exec_lookup {P : Program} {ρ : Operand → Value} {o : Oper} {t : TypeId} {m x : Operand} {ok : Bool} {mv xv v : Value} {w : World} (hop : o.op = .lookup t m x ok) (hm : ρ m = mv) (hx : ρ x = xv) (hr : (Instr.lookup t mv xv ok).run P w = .ok v w) : (execOp ρ o).run P w = .ok (.value v) w := by
  simp [execOp, hop, hm, hx, hr, Result.andThen]
def APst (W : World) (p : Nat) (l : List Pr) (t : Tx) (k : Int) (R : Asn) (e : Ending) (w' : World) : Prop := e = .returned (.int .i64 (if (t, k) ∈ l then 5 else 0)) ∧ St W w' (star (IsR p (addP l t k)) R)
def tr5 : Tr := .plain 0 (.plain 1 (.plain 2 (.held 3 (.plain 4 (.plain 5 (.plain 6 (.plain 7 (.held 8 (.plain 9 (.held 10 (.plain 11 (.one 12 (.one 13 (.one 14 .done))))))))))))))
set_option maxRecDepth 100000 in
set_option maxHeartbeats 8000000 in
theorem Add_any (p : Nat) (l : List Pr) (hl : l.length ≤ 1000000) (t : Tx) (k : Int) {W w : World} {R : Asn} (h : St W w (star (IsR p l) R)) :
    Calls Tryz.prog 54 #[.pointer (some ⟨p, 0, none⟩), kS t, .int .i64 k] w (APst W p l t k R) := by
  obtain ⟨bw0, hp0⟩ : ∃ bw, w.cell? ⟨p, 0, none⟩ = some (.map (some bw)) := by
    obtain ⟨bw, bh, who, what, hr, h1⟩ := St.isR h
    exact ⟨bw, h1.cell 0 rfl⟩
  have hN := Lib.hid (none_any p bw0 w hp0)
  clear hp0
  have hH := Lib.hid (Hears_any p l hl t k h)
  go_enter Tryz.func54, Tryz.ntmps54
  go_wp2_with fail
  refine hN.out.mono ?_
  rintro e w1 ⟨rfl, rfl⟩
  clear hN
  go_wp2_with fail
  refine hH.out.mono ?_
  rintro e w2 ⟨rfl, h2⟩
  clear hH h
  by_cases hm : (t, k) ∈ l
  · have HD : Hid (decide ((t, k) ∈ l) = true) := Lib.hid (by simpa using hm)
    have HM := Lib.hid hm
    clear hm
    rw [HD.out]
    go_wp2
    go_ret
    refine ⟨by rw [if_pos HM.out]; rfl, ?_⟩
    unfold addP
    rw [if_pos HM.out]
    exact h2
  · have HD : Hid (decide ((t, k) ∈ l) = false) := Lib.hid (by simpa using hm)
    have HM := Lib.hid hm
    clear hm
    rw [HD.out]
    obtain ⟨bw, bh, who, what, hr, h3⟩ := St.isR h2
    obtain ⟨es, hk, hnd, h4⟩ := St.msTake (h3.eq (B := star (MS kS kI 3 bw who) (star (pt p (.cells #[.map (some bw), .map (some bh)] 101 (0, 0))) (star (MS kI kS 9 bh what) R))) (by ac_rfl)) t
    have hwk : (getM t who).getD [] = ofP l t := by rw [hr.who, nz_getD]
    rw [hwk] at h4
    have HR := Lib.hid hr
    have HK := Lib.hid hk
    have HND := Lib.hid hnd
    have HWK := Lib.hid hwk
    obtain ⟨v, hv⟩ : ∃ v, (getM t es).getD nilS = v := ⟨_, rfl⟩
    have HV := Lib.hid hv
    rw [hv] at h4
    clear hr hk hnd hwk hv h2 h3
    go_wp2_with fail
    have h5 := h4.drew
    have hC := cw_of t (h5.eq (B := star (Mp kS bw es) (star (pt p (.cells #[.map (some bw), .map (some bh)] 101 (0, 0))) (star (Row 3 1 v (ofP l t).length ((ofP l t).map kI)) (star (RowsOf 3 kI ((delM t es).map (·.2)) ((delM t who).map (·.2))) (star (MS kI kS 9 bh what) R))))) (by ac_rfl))
    rw [HV.out] at hC
    refine wp_region_held (CW p bw t v) [14] tr5 (by kernel_rfl) (by kernel_rfl) hC ?_
    unfold tr5
    refine tr_plain (.pointer (some ⟨p, 0, none⟩)) rfl ?_ (by simp only [nthOp, Act.put, List.setIfInBounds_toArray, List.set_cons_succ, List.set_cons_zero]; rfl) ?_
    · exact fun _ => rfl
    refine tr_plain (.pointer (some ⟨p, 0, none⟩)) rfl ?_ (by simp only [nthOp, Act.put, List.setIfInBounds_toArray, List.set_cons_succ, List.set_cons_zero]; rfl) ?_
    · exact fun _ => rfl
    refine tr_plain (.pointer (some ⟨p, 0, none⟩)) rfl ?_ (by simp only [nthOp, Act.put, List.setIfInBounds_toArray, List.set_cons_succ, List.set_cons_zero]; rfl) ?_
    · (intro w'; simp only [nthOp]; go_simp)
    refine tr_held (.map (some bw)) rfl ?_ (by simp only [nthOp, Act.put, List.setIfInBounds_toArray, List.set_cons_succ, List.set_cons_zero]; rfl) ?_
    · (rintro w' ⟨hc1, -⟩; simp only [nthOp]; go_simp)
    refine tr_plain (kS t) rfl ?_ (by simp only [nthOp, Act.put, List.setIfInBounds_toArray, List.set_cons_succ, List.set_cons_zero]; rfl) ?_
    · exact fun _ => rfl
    refine tr_plain (.pointer (some ⟨p, 0, none⟩)) rfl ?_ (by simp only [nthOp, Act.put, List.setIfInBounds_toArray, List.set_cons_succ, List.set_cons_zero]; rfl) ?_
    · exact fun _ => rfl
    refine tr_plain (.pointer (some ⟨p, 0, none⟩)) rfl ?_ (by simp only [nthOp, Act.put, List.setIfInBounds_toArray, List.set_cons_succ, List.set_cons_zero]; rfl) ?_
    · exact fun _ => rfl
    refine tr_plain (.pointer (some ⟨p, 0, none⟩)) rfl ?_ (by simp only [nthOp, Act.put, List.setIfInBounds_toArray, List.set_cons_succ, List.set_cons_zero]; rfl) ?_
    · (intro w'; simp only [nthOp]; go_simp)
    refine tr_held (.map (some bw)) rfl ?_ (by simp only [nthOp, Act.put, List.setIfInBounds_toArray, List.set_cons_succ, List.set_cons_zero]; rfl) ?_
    · (rintro w' ⟨hc1, -⟩; simp only [nthOp]; go_simp)
    refine tr_plain (kS t) rfl ?_ (by simp only [nthOp, Act.put, List.setIfInBounds_toArray, List.set_cons_succ, List.set_cons_zero]; rfl) ?_
    · exact fun _ => rfl
    refine tr_held v rfl ?_ (by simp only [nthOp, Act.put, List.setIfInBounds_toArray, List.set_cons_succ, List.set_cons_zero]; rfl) ?_
    · exact fun w' hc => exec_lookup rfl rfl rfl hc.2
    refine tr_plain (kI k) rfl ?_ (by simp only [nthOp, Act.put, List.setIfInBounds_toArray, List.set_cons_succ, List.set_cons_zero]; rfl) ?_
    · exact fun _ => rfl
    obtain ⟨i0, hi0, hz0, hz1, hz2⟩ := info_parts infoI
    have U := Tryz.underlying33
    have hlen : (ofP l t).length ≤ l.length := ofP_le l t
    have h6 := h5.alloc (.cells #[kI k] 3)
    have h7 := (h6.eq (B := star (Row 3 1 v (ofP l t).length ((ofP l t).map kI)) (star (pt w2.drew.heap.size (.cells #[kI k] 3 (0, 0))) (star (Mp kS bw es) (star (pt p (.cells #[.map (some bw), .map (some bh)] 101 (0, 0))) (star (RowsOf 3 kI ((delM t es).map (·.2)) ((delM t who).map (·.2))) (star (MS kI kS 9 bh what) R)))))) (by ac_rfl))
    have hone : Sl (w2.drew.alloc (.cells #[kI k] 3)) 1 (.slice (some ⟨w2.drew.heap.size, 0, none⟩) 1 1) 1 [kI k] := (St.mkRow (size := 1) (n := 1) (cap := 1) (xs := [kI k]) h6 (Nat.le_refl _) (by unfold maxLen; omega) rfl rfl).rowSl
    have hC2 := cw_of t (h6.eq (B := star (Mp kS bw es) (star (pt p (.cells #[.map (some bw), .map (some bh)] 101 (0, 0))) (star (pt w2.drew.heap.size (.cells #[kI k] 3 (0, 0))) (star (Row 3 1 v (ofP l t).length ((ofP l t).map kI)) (star (RowsOf 3 kI ((delM t es).map (·.2)) ((delM t who).map (·.2))) (star (MS kI kS 9 bh what) R)))))) (by ac_rfl))
    rw [HV.out] at hC2
    refine tr_one ?_
    simp only [nthOp]
    go_wp2_with fail
    simp only [Reg.Next]
    refine ⟨fun _ => hC2, tr_one ?_⟩
    simp only [nthOp]
    clear hC hC2 h4 h5 h6
    go_wp2_with (at_builtin; refine wpList_append_Sl rfl (.tmp 25) (.tmp 27) 33 rfl 3 i0 (.int .i64 0) 1 8 U hi0 hz0 hz1 hz2 rfl v (ofP l t).length ((ofP l t).map kI) rfl h7 _ 1 [kI k] rfl hone (oneI [k]) (by unfold maxLen; omega) (by omega) ?_; intro v9 w9 h9 hv9)
    have h10 := h9.eq (B := star (Mp kS bw es) (star (pt p (.cells #[.map (some bw), .map (some bh)] 101 (0, 0))) (star (Row 3 1 v9 ((ofP l t).length + 1) ((ofP l t).map kI ++ [kI k])) (star (pt w2.drew.heap.size (.cells #[kI k] 3 (0, 0))) (star (RowsOf 3 kI ((delM t es).map (·.2)) ((delM t who).map (·.2))) (star (MS kI kS 9 bh what) R)))))) (by ac_rfl)
    have hC3 := cw_of t h10
    rw [HV.out] at hC3
    simp only [Reg.Next]
    refine ⟨hC3, tr_one ?_⟩
    simp only [nthOp]
    clear h7 h9 hone hC3
    go_wp2_with (at_mapUpdate; refine wpList_mapUpdate cS rfl (.tmp 18) (.tmp 19) (.tmp 28) rfl Tryz.underlying99 Tryz.underlying9 rfl h10 t v9 rfl rfl ?_; intro w11 h11)
    simp only [Reg.Next]
    refine tr_done ?_
    have HL1 : Hid (((ofP l t) ++ [k]).length = (ofP l t).length + 1) := Lib.hid (by simp)
    have HL2 : Hid (((ofP l t) ++ [k]).map kI = (ofP l t).map kI ++ [kI k]) := Lib.hid (by simp)
    have h12 := St.msPut (e := 3) (encV := kI) (k := t) (v := v9) (xs := ofP l t ++ [k]) HK.out HND.out (R := star (pt w2.drew.heap.size (.cells #[kI k] 3 (0, 0))) (star (pt p (.cells #[.map (some bw), .map (some bh)] 101 (0, 0))) (star (MS kI kS 9 bh what) R))) (h11.eq (by rw [HL1.out, HL2.out]; ac_rfl))
    have h13 := (h12.eq (B := star (pt w2.drew.heap.size (.cells #[kI k] 3 (0, 0))) (star (pt p (.cells #[.map (some bw), .map (some bh)] 101 (0, 0))) (star (MS kS kI 3 bw (putM t (ofP l t ++ [k]) who)) (star (MS kI kS 9 bh what) R)))) (by ac_rfl)).right
    clear h10 h11 h12 HK HND HWK HV HL1 HL2
    obtain ⟨fs, hk, hnd, h14⟩ := St.msTake (h13.eq (B := star (MS kI kS 9 bh what) (star (pt p (.cells #[.map (some bw), .map (some bh)] 101 (0, 0))) (star (MS kS kI 3 bw (putM t (ofP l t ++ [k]) who)) R))) (by ac_rfl)) k
    have hwk : (getM k what).getD [] = byP l k := by rw [HR.out.what, nz_getD]
    rw [hwk] at h14
    have HK := Lib.hid hk
    have HND := Lib.hid hnd
    obtain ⟨v, hv⟩ : ∃ v, (getM k fs).getD nilS = v := ⟨_, rfl⟩
    have HV := Lib.hid hv
    have HWK := Lib.hid hwk
    rw [hv] at h14
    clear hk hnd hwk hv h13 U hi0 hz0 hz1 hz2 hlen hv9
    go_wp2_with fail
    have h4 := h14
    have h5 := h14.drew
    have hC := ch_of k (h5.eq (B := star (Mp kI bh fs) (star (pt p (.cells #[.map (some bw), .map (some bh)] 101 (0, 0))) (star (Row 9 1 v (byP l k).length ((byP l k).map kS)) (star (RowsOf 9 kS ((delM k fs).map (·.2)) ((delM k what).map (·.2))) (star (MS kS kI 3 bw (putM t (ofP l t ++ [k]) who)) R))))) (by ac_rfl))
    rw [HV.out] at hC
    refine wp_region_held (CH p bh k v) [14] tr5 (by kernel_rfl) (by kernel_rfl) hC ?_
    unfold tr5
    clear h14
    refine tr_plain (.pointer (some ⟨p, 0, none⟩)) rfl ?_ (by simp only [nthOp, Act.put, List.setIfInBounds_toArray, List.set_cons_succ, List.set_cons_zero]; rfl) ?_
    · exact fun _ => rfl
    refine tr_plain (.pointer (some ⟨p, 0, none⟩)) rfl ?_ (by simp only [nthOp, Act.put, List.setIfInBounds_toArray, List.set_cons_succ, List.set_cons_zero]; rfl) ?_
    · exact fun _ => rfl
    refine tr_plain (.pointer (some ⟨p, 1, none⟩)) rfl ?_ (by simp only [nthOp, Act.put, List.setIfInBounds_toArray, List.set_cons_succ, List.set_cons_zero]; rfl) ?_
    · (intro w'; simp only [nthOp]; go_simp)
    refine tr_held (.map (some bh)) rfl ?_ (by simp only [nthOp, Act.put, List.setIfInBounds_toArray, List.set_cons_succ, List.set_cons_zero]; rfl) ?_
    · (rintro w' ⟨hc1, -⟩; simp only [nthOp]; go_simp)
    refine tr_plain (kI k) rfl ?_ (by simp only [nthOp, Act.put, List.setIfInBounds_toArray, List.set_cons_succ, List.set_cons_zero]; rfl) ?_
    · exact fun _ => rfl
    refine tr_plain (.pointer (some ⟨p, 0, none⟩)) rfl ?_ (by simp only [nthOp, Act.put, List.setIfInBounds_toArray, List.set_cons_succ, List.set_cons_zero]; rfl) ?_
    · exact fun _ => rfl
    refine tr_plain (.pointer (some ⟨p, 0, none⟩)) rfl ?_ (by simp only [nthOp, Act.put, List.setIfInBounds_toArray, List.set_cons_succ, List.set_cons_zero]; rfl) ?_
    · exact fun _ => rfl
    refine tr_plain (.pointer (some ⟨p, 1, none⟩)) rfl ?_ (by simp only [nthOp, Act.put, List.setIfInBounds_toArray, List.set_cons_succ, List.set_cons_zero]; rfl) ?_
    · (intro w'; simp only [nthOp]; go_simp)
    refine tr_held (.map (some bh)) rfl ?_ (by simp only [nthOp, Act.put, List.setIfInBounds_toArray, List.set_cons_succ, List.set_cons_zero]; rfl) ?_
    · (rintro w' ⟨hc1, -⟩; simp only [nthOp]; go_simp)
    refine tr_plain (kI k) rfl ?_ (by simp only [nthOp, Act.put, List.setIfInBounds_toArray, List.set_cons_succ, List.set_cons_zero]; rfl) ?_
    · exact fun _ => rfl
    refine tr_held v rfl ?_ (by simp only [nthOp, Act.put, List.setIfInBounds_toArray, List.set_cons_succ, List.set_cons_zero]; rfl) ?_
    · exact fun w' hc => exec_lookup rfl rfl rfl hc.2
    refine tr_plain (kS t) rfl ?_ (by simp only [nthOp, Act.put, List.setIfInBounds_toArray, List.set_cons_succ, List.set_cons_zero]; rfl) ?_
    · exact fun _ => rfl
    obtain ⟨i0, hi0, hz0, hz1, hz2⟩ := info_parts infoS
    have U := Tryz.underlying36
    have hlen : (byP l k).length ≤ l.length := byP_le l k
    have h6 := h5.alloc (.cells #[kS t] 9)
    have h7 := (h6.eq (B := star (Row 9 1 v (byP l k).length ((byP l k).map kS)) (star (pt w11.drew.heap.size (.cells #[kS t] 9 (0, 0))) (star (Mp kI bh fs) (star (pt p (.cells #[.map (some bw), .map (some bh)] 101 (0, 0))) (star (RowsOf 9 kS ((delM k fs).map (·.2)) ((delM k what).map (·.2))) (star (MS kS kI 3 bw (putM t (ofP l t ++ [k]) who)) R)))))) (by ac_rfl))
    have hone : Sl (w11.drew.alloc (.cells #[kS t] 9)) 1 (.slice (some ⟨w11.drew.heap.size, 0, none⟩) 1 1) 1 [kS t] := (St.mkRow (size := 1) (n := 1) (cap := 1) (xs := [kS t]) h6 (Nat.le_refl _) (by unfold maxLen; omega) rfl rfl).rowSl
    have hC2 := ch_of k (h6.eq (B := star (Mp kI bh fs) (star (pt p (.cells #[.map (some bw), .map (some bh)] 101 (0, 0))) (star (pt w11.drew.heap.size (.cells #[kS t] 9 (0, 0))) (star (Row 9 1 v (byP l k).length ((byP l k).map kS)) (star (RowsOf 9 kS ((delM k fs).map (·.2)) ((delM k what).map (·.2))) (star (MS kS kI 3 bw (putM t (ofP l t ++ [k]) who)) R)))))) (by ac_rfl))
    rw [HV.out] at hC2
    refine tr_one ?_
    simp only [nthOp]
    go_wp2_with fail
    simp only [Reg.Next]
    refine ⟨fun _ => hC2, tr_one ?_⟩
    simp only [nthOp]
    clear hC hC2 h4 h5 h6
    go_wp2_with (at_builtin; refine wpList_append_Sl rfl (.tmp 39) (.tmp 41) 36 rfl 9 i0 (.string ByteArray.empty) 1 16 U hi0 hz0 hz1 hz2 rfl v (byP l k).length ((byP l k).map kS) rfl h7 _ 1 [kS t] rfl hone (oneS [t]) (by unfold maxLen; omega) (by omega) ?_; intro v9 w9 h9 hv9)
    have h10 := h9.eq (B := star (Mp kI bh fs) (star (pt p (.cells #[.map (some bw), .map (some bh)] 101 (0, 0))) (star (Row 9 1 v9 ((byP l k).length + 1) ((byP l k).map kS ++ [kS t])) (star (pt w11.drew.heap.size (.cells #[kS t] 9 (0, 0))) (star (RowsOf 9 kS ((delM k fs).map (·.2)) ((delM k what).map (·.2))) (star (MS kS kI 3 bw (putM t (ofP l t ++ [k]) who)) R)))))) (by ac_rfl)
    have hC3 := ch_of k h10
    rw [HV.out] at hC3
    simp only [Reg.Next]
    refine ⟨hC3, tr_one ?_⟩
    simp only [nthOp]
    clear h7 h9 hone hC3
    go_wp2_with (at_mapUpdate; refine wpList_mapUpdate cI rfl (.tmp 32) (.tmp 33) (.tmp 42) rfl Tryz.underlying35 Tryz.underlying3 rfl h10 k v9 rfl rfl ?_; intro w21 h11)
    simp only [Reg.Next]
    refine tr_done ?_
    have HL1 : Hid (((byP l k) ++ [t]).length = (byP l k).length + 1) := Lib.hid (by simp)
    have HL2 : Hid (((byP l k) ++ [t]).map kS = (byP l k).map kS ++ [kS t]) := Lib.hid (by simp)
    have h12 := St.msPut (e := 9) (encV := kS) (k := k) (v := v9) (xs := byP l k ++ [t]) HK.out HND.out (R := star (pt w11.drew.heap.size (.cells #[kS t] 9 (0, 0))) (star (pt p (.cells #[.map (some bw), .map (some bh)] 101 (0, 0))) (star (MS kS kI 3 bw (putM t (ofP l t ++ [k]) who)) R))) (h11.eq (by rw [HL1.out, HL2.out]; ac_rfl))
    have h13 := (h12.eq (B := star (pt w11.drew.heap.size (.cells #[kS t] 9 (0, 0))) (star (pt p (.cells #[.map (some bw), .map (some bh)] 101 (0, 0))) (star (MS kI kS 9 bh (putM k (byP l k ++ [t]) what)) (star (MS kS kI 3 bw (putM t (ofP l t ++ [k]) who)) R)))) (by ac_rfl)).right
    clear h10 h11 h12 HK HND HWK HV HL1 HL2
    go_wp2
    go_ret
    refine ⟨by rw [if_neg HM.out]; rfl, ?_⟩
    unfold addP
    rw [if_neg HM.out]
    exact St.toR (bw := bw) (bh := bh) (HR.out.add HM.out) (h13.eq (by ac_rfl))
end Go.Proofs.YtdobgebdlbckoaaGreatDoor.TpL
