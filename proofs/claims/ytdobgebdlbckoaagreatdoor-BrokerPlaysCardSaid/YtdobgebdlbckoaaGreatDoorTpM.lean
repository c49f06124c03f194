import Derived.Test.YtdobgebdlbckoaaGreatDoorTpL
import Derived.Deep.CutRange
namespace Go.Proofs.YtdobgebdlbckoaaGreatDoor.TpM
open Go Go.RowKit Go.Proofs Go.Proofs.YtdobgebdlbckoaaGreatDoor.Sep Go.Proofs.YtdobgebdlbckoaaGreatDoor.Reg Go.Proofs.YtdobgebdlbckoaaGreatDoor.Frame Go.Proofs.YtdobgebdlbckoaaGreatDoor.Slc Go.Proofs.YtdobgebdlbckoaaGreatDoor.Mp Go.Proofs.YtdobgebdlbckoaaGreatDoor.Ms Go.Proofs.YtdobgebdlbckoaaGreatDoor.Held Go.Proofs.YtdobgebdlbckoaaGreatDoor.TpP Go.Proofs.YtdobgebdlbckoaaGreatDoor.TpA Go.Proofs.YtdobgebdlbckoaaGreatDoor.TpB Go.Proofs.YtdobgebdlbckoaaGreatDoor.TpI Go.Proofs.YtdobgebdlbckoaaGreatDoor.TpJ Go.Proofs.YtdobgebdlbckoaaGreatDoor.TpK Go.Proofs.YtdobgebdlbckoaaGreatDoor.TpL

def tr3 : Tr := .plain 0 (.plain 1 (.plain 2 (.held 3 (.plain 4 (.plain 5 (.plain 6 (.plain 7 (.held 8 (.plain 9 (.held 10 (.plain 11 (.one 12 (.one 13 .done)))))))))))))
def RPst (W : World) (p : Nat) (l : List Pr) (t : Tx) (k : Int) (R : Asn) (e : Ending) (w' : World) : Prop := e = .returned (.bool (decide ((t, k) ∈ l))) ∧ St W w' (star (IsR p (dropP l t k)) R)
set_option maxRecDepth 100000 in
set_option maxHeartbeats 8000000 in
theorem Drop_any (p : Nat) (l : List Pr) (hl : l.length ≤ 1000000) (t : Tx) (k : Int) {W w : World} {R : Asn} (h : St W w (star (IsR p l) R)) :
    Calls Tryz.prog 36 #[.pointer (some ⟨p, 0, none⟩), kS t, .int .i64 k] w (RPst W p l t k R) := by
  have hH := Lib.hid (Hears_any p l hl t k h)
  go_enter Tryz.func36, Tryz.ntmps36
  go_wp2_with fail
  refine hH.out.mono ?_
  rintro e w2 ⟨rfl, h2⟩
  clear hH h
  by_cases hm : (t, k) ∈ l
  rotate_left
  · have HD : Hid (decide ((t, k) ∈ l) = false) := Lib.hid (by simpa using hm)
    have HM := Lib.hid hm
    clear hm
    rw [HD.out]
    go_wp2
    go_ret
    refine ⟨by rw [HD.out]; rfl, ?_⟩
    rw [dropP_not HM.out]
    exact h2
  · have HD : Hid (decide ((t, k) ∈ l) = true) := Lib.hid (by simpa using hm)
    clear hm
    rw [HD.out]
    obtain ⟨bw, bh, who, what, hr, h3⟩ := St.isR h2
    have HR := Lib.hid hr
    clear hr h2
    obtain ⟨es, hk, hnd, h4⟩ := St.msTake (h3.eq (B := star (MS kS kI 3 bw who) (star (pt p (.cells #[.map (some bw), .map (some bh)] 101 (0, 0))) (star (MS kI kS 9 bh what) R))) (by ac_rfl)) t
    have hwk : (getM t who).getD [] = ofP l t := by rw [HR.out.who, nz_getD]
    rw [hwk] at h4
    have HK := Lib.hid hk
    have HND := Lib.hid hnd
    have HWK := Lib.hid hwk
    obtain ⟨v, hv⟩ : ∃ v, (getM t es).getD nilS = v := ⟨_, rfl⟩
    have HV := Lib.hid hv
    rw [hv] at h4
    clear hk hnd hwk hv h3
    go_wp2_with fail
    have h5 := h4.drew
    have h5a := h5.eq (B := star (Mp kS bw es) (star (pt p (.cells #[.map (some bw), .map (some bh)] 101 (0, 0))) (star (Row 3 1 v (ofP l t).length ((ofP l t).map kI)) (star (RowsOf 3 kI ((delM t es).map (·.2)) ((delM t who).map (·.2))) (star (MS kI kS 9 bh what) R))))) (by ac_rfl)
    have hC := cw_of t h5a
    rw [HV.out] at hC
    have HWO := Lib.hid (withoutI_any v (ofP l t) _ rfl (Nat.le_trans (ofP_le l t) hl) k h5a h5a.right.right.rowSl)
    refine wp_region_held (CW p bw t v) [13] tr3 (by kernel_rfl) (by kernel_rfl) hC ?_
    unfold tr3
    refine tr_plain (.pointer (some ⟨p, 0, none⟩)) rfl ?_ (by simp only [nthOp, Act.put, List.setIfInBounds_toArray, List.set_cons_succ, List.set_cons_zero]; rfl) ?_
    · exact fun _ => rfl
    refine tr_plain (.pointer (some ⟨p, 0, none⟩)) rfl ?_ (by simp only [nthOp, Act.put, List.setIfInBounds_toArray, List.set_cons_succ, List.set_cons_zero]; rfl) ?_
    · exact fun _ => rfl
    refine tr_plain (.pointer (some ⟨p, 0, none⟩)) rfl ?_ (by simp only [nthOp, Act.put, List.setIfInBounds_toArray, List.set_cons_succ, List.set_cons_zero]; rfl) ?_
    · (intro w'; simp only [nthOp]; go_simp)
    refine tr_held (.map (some bw)) rfl ?_ (by simp only [nthOp, Act.put, List.setIfInBounds_toArray, List.set_cons_succ, List.set_cons_zero]; rfl) ?_
    · (rintro w' ⟨hc1, -⟩; simp only [nthOp]; go_simp)
    refine tr_plain (kS t) rfl ?_ (by simp only [nthOp, Act.put, List.setIfInBounds_toArray, List.set_cons_succ, List.set_cons_zero]; rfl) ?_
    · exact fun _ => rfl
    refine tr_plain (.pointer (some ⟨p, 0, none⟩)) rfl ?_ (by simp only [nthOp, Act.put, List.setIfInBounds_toArray, List.set_cons_succ, List.set_cons_zero]; rfl) ?_
    · exact fun _ => rfl
    refine tr_plain (.pointer (some ⟨p, 0, none⟩)) rfl ?_ (by simp only [nthOp, Act.put, List.setIfInBounds_toArray, List.set_cons_succ, List.set_cons_zero]; rfl) ?_
    · exact fun _ => rfl
    refine tr_plain (.pointer (some ⟨p, 0, none⟩)) rfl ?_ (by simp only [nthOp, Act.put, List.setIfInBounds_toArray, List.set_cons_succ, List.set_cons_zero]; rfl) ?_
    · (intro w'; simp only [nthOp]; go_simp)
    refine tr_held (.map (some bw)) rfl ?_ (by simp only [nthOp, Act.put, List.setIfInBounds_toArray, List.set_cons_succ, List.set_cons_zero]; rfl) ?_
    · (rintro w' ⟨hc1, -⟩; simp only [nthOp]; go_simp)
    refine tr_plain (kS t) rfl ?_ (by simp only [nthOp, Act.put, List.setIfInBounds_toArray, List.set_cons_succ, List.set_cons_zero]; rfl) ?_
    · exact fun _ => rfl
    refine tr_held v rfl ?_ (by simp only [nthOp, Act.put, List.setIfInBounds_toArray, List.set_cons_succ, List.set_cons_zero]; rfl) ?_
    · exact fun w' hc => exec_lookup rfl rfl rfl hc.2
    refine tr_plain (kI k) rfl ?_ (by simp only [nthOp, Act.put, List.setIfInBounds_toArray, List.set_cons_succ, List.set_cons_zero]; rfl) ?_
    · exact fun _ => rfl
    refine tr_one ?_
    simp only [nthOp]
    clear h4
    go_wp2_with fail
    refine HWO.out.mono ?_
    rintro e w9 ⟨a9, c9, rfl, h9⟩
    have h10 := h9.eq (B := star (Mp kS bw es) (star (pt p (.cells #[.map (some bw), .map (some bh)] 101 (0, 0))) (star (Row 3 1 (.slice a9 (remP k (ofP l t)).length c9) (remP k (ofP l t)).length ((remP k (ofP l t)).map kI)) (star (Row 3 1 v (ofP l t).length ((ofP l t).map kI)) (star (RowsOf 3 kI ((delM t es).map (·.2)) ((delM t who).map (·.2))) (star (MS kI kS 9 bh what) R)))))) (by ac_rfl)
    have hC3 := cw_of t h10
    rw [HV.out] at hC3
    go_wp2_with fail
    simp only [Reg.Next]
    refine ⟨fun _ => hC3, tr_one ?_⟩
    simp only [nthOp]
    clear h9 h5 h5a hC hC3 HWO
    go_wp2_with (at_mapUpdate; refine wpList_mapUpdate cS rfl (.tmp 15) (.tmp 16) (.tmp 24) rfl Tryz.underlying99 Tryz.underlying9 rfl h10 t (.slice a9 (remP k (ofP l t)).length c9) rfl rfl ?_; intro w11 h11)
    simp only [Reg.Next]
    refine tr_done ?_
    have h12 := St.msPut (e := 3) (encV := kI) (k := t) (xs := (remP k (ofP l t))) HK.out HND.out (R := star (Row 3 1 v (ofP l t).length ((ofP l t).map kI)) (star (pt p (.cells #[.map (some bw), .map (some bh)] 101 (0, 0))) (star (MS kI kS 9 bh what) R))) (h11.eq (by ac_rfl))
    have h13 := (h12.eq (B := star (Row 3 1 v (ofP l t).length ((ofP l t).map kI)) (star (MS kS kI 3 bw (putM t (remP k (ofP l t)) who)) (star (pt p (.cells #[.map (some bw), .map (some bh)] 101 (0, 0))) (star (MS kI kS 9 bh what) R)))) (by ac_rfl)).right
    clear h10 h11 h12 HK HND HWK HV
    obtain ⟨es, hk, hnd, h4⟩ := St.msTake h13 t
    have hgx : (getM t (putM t (remP k (ofP l t)) who)).getD [] = (remP k (ofP l t)) := by rw [getM_put, if_pos rfl]; rfl
    rw [hgx] at h4
    have hlk := run_lookup (P := Tryz.prog) (t := 99) cS Tryz.underlying99 Tryz.underlying9 (Tryz.zeroValue33 w11) h4 t false
    have hpc := h4.right.right.right.cell 0 rfl
    obtain ⟨v, hv⟩ : ∃ v, (getM t es).getD nilS = v := ⟨_, rfl⟩
    have HK := Lib.hid hk
    have HND := Lib.hid hnd
    have HV := Lib.hid hv
    have HGX := Lib.hid hgx
    rw [hv] at h4 hlk
    obtain ⟨_, a4, c4, rfl, _⟩ := id h4.right.rowSl
    clear hk hnd hv h13 hgx
    go_upto_if 32 with fail
    go_cut [6] from 7 (fun s wx => s = .bool false ∧ St W wx (star (MS kS kI 3 bw (stow t (remP k (ofP l t)) who)) (star (pt p (.cells #[.map (some bw), .map (some bh)] 101 (0, 0))) (star (MS kI kS 9 bh what) R))))
    case first =>
      by_cases hz : (remP k (ofP l t)).length = 0
      · have hzI : ((((remP k (ofP l t)).length : Nat) : Int) == 0) = true := by rw [hz]; rfl
        have HST : Hid (delM t (putM t (remP k (ofP l t)) who) = stow t (remP k (ofP l t)) who) := Lib.hid (by unfold stow; rw [if_pos (by simpa using List.length_eq_zero_iff.1 hz)])
        clear hz
        go_wp2_with (at_delete; refine wpList_delete cS rfl (.tmp 36) (.tmp 37) rfl Tryz.underlying99 Tryz.underlying9 rfl h4 t rfl ?_; intro w13 h14)
        go_meet
        refine ⟨rfl, ?_⟩
        rw [← HST.out]
        refine St.msDel (es := es) HK.out ?_
        rw [HV.out, HGX.out]
        exact h14
      · have hzI : ((((remP k (ofP l t)).length : Nat) : Int) == 0) = false := by rw [beq_eq_false_iff_ne]; omega
        have HST : Hid (putM t (remP k (ofP l t)) who = stow t (remP k (ofP l t)) who) := Lib.hid (by unfold stow; rw [if_neg (by simpa using fun e => hz (by rw [e]; rfl))])
        clear hz
        go_wp2_with fail
        go_meet
        refine ⟨rfl, ?_⟩
        rw [← HST.out]
        refine St.msBack (es := es) (k := t) HK.out HND.out ?_
        rw [HV.out, HGX.out]
        exact h4
    case rest =>
    obtain ⟨rfl, h3⟩ := hcut
    clear h4 hlk hpc HK HND HV HGX
    obtain ⟨es, hk, hnd, h4⟩ := St.msTake (h3.eq (B := star (MS kI kS 9 bh what) (star (pt p (.cells #[.map (some bw), .map (some bh)] 101 (0, 0))) (star (MS kS kI 3 bw (stow t (remP k (ofP l t)) who)) R))) (by ac_rfl)) k
    have hwk : (getM k what).getD [] = byP l k := by rw [HR.out.what, nz_getD]
    rw [hwk] at h4
    have HK := Lib.hid hk
    have HND := Lib.hid hnd
    have HWK := Lib.hid hwk
    obtain ⟨v, hv⟩ : ∃ v, (getM k es).getD nilS = v := ⟨_, rfl⟩
    have HV := Lib.hid hv
    rw [hv] at h4
    clear hk hnd hwk hv h3
    go_wp2_with fail
    have h5 := h4.drew
    have h5a := h5.eq (B := star (Mp kI bh es) (star (pt p (.cells #[.map (some bw), .map (some bh)] 101 (0, 0))) (star (Row 9 1 v (byP l k).length ((byP l k).map kS)) (star (RowsOf 9 kS ((delM k es).map (·.2)) ((delM k what).map (·.2))) (star (MS kS kI 3 bw (stow t (remP k (ofP l t)) who)) R))))) (by ac_rfl)
    have hC := ch_of k h5a
    rw [HV.out] at hC
    have HWO := Lib.hid (withoutS_any v (byP l k) _ rfl (Nat.le_trans (byP_le l k) hl) t h5a h5a.right.right.rowSl)
    refine wp_region_held (CH p bh k v) [13] tr3 (by kernel_rfl) (by kernel_rfl) hC ?_
    unfold tr3
    refine tr_plain (.pointer (some ⟨p, 0, none⟩)) rfl ?_ (by simp only [nthOp, Act.put, List.setIfInBounds_toArray, List.set_cons_succ, List.set_cons_zero]; rfl) ?_
    · exact fun _ => rfl
    refine tr_plain (.pointer (some ⟨p, 0, none⟩)) rfl ?_ (by simp only [nthOp, Act.put, List.setIfInBounds_toArray, List.set_cons_succ, List.set_cons_zero]; rfl) ?_
    · exact fun _ => rfl
    refine tr_plain (.pointer (some ⟨p, 1, none⟩)) rfl ?_ (by simp only [nthOp, Act.put, List.setIfInBounds_toArray, List.set_cons_succ, List.set_cons_zero]; rfl) ?_
    · (intro w'; simp only [nthOp]; go_simp)
    refine tr_held (.map (some bh)) rfl ?_ (by simp only [nthOp, Act.put, List.setIfInBounds_toArray, List.set_cons_succ, List.set_cons_zero]; rfl) ?_
    · (rintro w' ⟨hc1, -⟩; simp only [nthOp]; go_simp)
    refine tr_plain (kI k) rfl ?_ (by simp only [nthOp, Act.put, List.setIfInBounds_toArray, List.set_cons_succ, List.set_cons_zero]; rfl) ?_
    · exact fun _ => rfl
    refine tr_plain (.pointer (some ⟨p, 0, none⟩)) rfl ?_ (by simp only [nthOp, Act.put, List.setIfInBounds_toArray, List.set_cons_succ, List.set_cons_zero]; rfl) ?_
    · exact fun _ => rfl
    refine tr_plain (.pointer (some ⟨p, 0, none⟩)) rfl ?_ (by simp only [nthOp, Act.put, List.setIfInBounds_toArray, List.set_cons_succ, List.set_cons_zero]; rfl) ?_
    · exact fun _ => rfl
    refine tr_plain (.pointer (some ⟨p, 1, none⟩)) rfl ?_ (by simp only [nthOp, Act.put, List.setIfInBounds_toArray, List.set_cons_succ, List.set_cons_zero]; rfl) ?_
    · (intro w'; simp only [nthOp]; go_simp)
    refine tr_held (.map (some bh)) rfl ?_ (by simp only [nthOp, Act.put, List.setIfInBounds_toArray, List.set_cons_succ, List.set_cons_zero]; rfl) ?_
    · (rintro w' ⟨hc1, -⟩; simp only [nthOp]; go_simp)
    refine tr_plain (kI k) rfl ?_ (by simp only [nthOp, Act.put, List.setIfInBounds_toArray, List.set_cons_succ, List.set_cons_zero]; rfl) ?_
    · exact fun _ => rfl
    refine tr_held v rfl ?_ (by simp only [nthOp, Act.put, List.setIfInBounds_toArray, List.set_cons_succ, List.set_cons_zero]; rfl) ?_
    · exact fun w' hc => exec_lookup rfl rfl rfl hc.2
    refine tr_plain (kS t) rfl ?_ (by simp only [nthOp, Act.put, List.setIfInBounds_toArray, List.set_cons_succ, List.set_cons_zero]; rfl) ?_
    · exact fun _ => rfl
    refine tr_one ?_
    simp only [nthOp]
    clear h4
    go_wp2_with fail
    refine HWO.out.mono ?_
    rintro e w19 ⟨a9, c9, rfl, h9⟩
    have h10 := h9.eq (B := star (Mp kI bh es) (star (pt p (.cells #[.map (some bw), .map (some bh)] 101 (0, 0))) (star (Row 9 1 (.slice a9 (remP t (byP l k)).length c9) (remP t (byP l k)).length ((remP t (byP l k)).map kS)) (star (Row 9 1 v (byP l k).length ((byP l k).map kS)) (star (RowsOf 9 kS ((delM k es).map (·.2)) ((delM k what).map (·.2))) (star (MS kS kI 3 bw (stow t (remP k (ofP l t)) who)) R)))))) (by ac_rfl)
    have hC3 := ch_of k h10
    rw [HV.out] at hC3
    go_wp2_with fail
    simp only [Reg.Next]
    refine ⟨fun _ => hC3, tr_one ?_⟩
    simp only [nthOp]
    clear h9 h5 h5a hC hC3 HWO
    go_wp2_with (at_mapUpdate; refine wpList_mapUpdate cI rfl (.tmp 41) (.tmp 42) (.tmp 50) rfl Tryz.underlying35 Tryz.underlying3 rfl h10 k (.slice a9 (remP t (byP l k)).length c9) rfl rfl ?_; intro w21 h11)
    simp only [Reg.Next]
    refine tr_done ?_
    have h12 := St.msPut (e := 9) (encV := kS) (k := k) (xs := (remP t (byP l k))) HK.out HND.out (R := star (Row 9 1 v (byP l k).length ((byP l k).map kS)) (star (pt p (.cells #[.map (some bw), .map (some bh)] 101 (0, 0))) (star (MS kS kI 3 bw (stow t (remP k (ofP l t)) who)) R))) (h11.eq (by ac_rfl))
    have h13 := (h12.eq (B := star (Row 9 1 v (byP l k).length ((byP l k).map kS)) (star (MS kI kS 9 bh (putM k (remP t (byP l k)) what)) (star (pt p (.cells #[.map (some bw), .map (some bh)] 101 (0, 0))) (star (MS kS kI 3 bw (stow t (remP k (ofP l t)) who)) R)))) (by ac_rfl)).right
    clear h10 h11 h12 HK HND HWK HV
    obtain ⟨es, hk, hnd, h4⟩ := St.msTake h13 k
    have hgx : (getM k (putM k (remP t (byP l k)) what)).getD [] = (remP t (byP l k)) := by rw [getM_put, if_pos rfl]; rfl
    rw [hgx] at h4
    have hlk := run_lookup (P := Tryz.prog) (t := 35) cI Tryz.underlying35 Tryz.underlying3 (Tryz.zeroValue36 w21) h4 k false
    have hpc := h4.right.right.right.cell 1 rfl
    obtain ⟨v, hv⟩ : ∃ v, (getM k es).getD nilS = v := ⟨_, rfl⟩
    have HK := Lib.hid hk
    have HND := Lib.hid hnd
    have HV := Lib.hid hv
    have HGX := Lib.hid hgx
    rw [hv] at h4 hlk
    obtain ⟨_, a4, c4, rfl, _⟩ := id h4.right.rowSl
    clear hk hnd hv h13 hgx
    go_upto_if 58 with fail
    have HRR : Hid (RelT (stow t (remP k (ofP l t)) who) (stow k (remP t (byP l k)) what) (dropP l t k)) := Lib.hid (HR.out.drop t k)
    by_cases hz : (remP t (byP l k)).length = 0
    · have hzI : ((((remP t (byP l k)).length : Nat) : Int) == 0) = true := by rw [hz]; rfl
      have HST : Hid (delM k (putM k (remP t (byP l k)) what) = stow k (remP t (byP l k)) what) := Lib.hid (by unfold stow; rw [if_pos (by simpa using List.length_eq_zero_iff.1 hz)])
      clear hz
      go_wp2_with (at_delete; refine wpList_delete cI rfl (.tmp 62) (.tmp 63) rfl Tryz.underlying35 Tryz.underlying3 rfl h4 k rfl ?_; intro w13 h14)
      go_wp2
      go_ret
      have h15 : St W w13 (star (MS kI kS 9 bh (stow k (remP t (byP l k)) what)) (star (pt p (.cells #[.map (some bw), .map (some bh)] 101 (0, 0))) (star (MS kS kI 3 bw (stow t (remP k (ofP l t)) who)) R))) := by
        rw [← HST.out]
        refine St.msDel (es := es) HK.out ?_
        rw [HV.out, HGX.out]
        exact h14
      exact ⟨by rw [HD.out]; rfl, St.toR (bw := bw) (bh := bh) HRR.out (h15.eq (by ac_rfl))⟩
    · have hzI : ((((remP t (byP l k)).length : Nat) : Int) == 0) = false := by rw [beq_eq_false_iff_ne]; omega
      have HST : Hid (putM k (remP t (byP l k)) what = stow k (remP t (byP l k)) what) := Lib.hid (by unfold stow; rw [if_neg (by simpa using fun e => hz (by rw [e]; rfl))])
      clear hz
      go_wp2
      go_ret
      have h15 : St W w21 (star (MS kI kS 9 bh (stow k (remP t (byP l k)) what)) (star (pt p (.cells #[.map (some bw), .map (some bh)] 101 (0, 0))) (star (MS kS kI 3 bw (stow t (remP k (ofP l t)) who)) R))) := by
        rw [← HST.out]
        refine St.msBack (es := es) (k := k) HK.out HND.out ?_
        rw [HV.out, HGX.out]
        exact h4
      exact ⟨by rw [HD.out]; rfl, St.toR (bw := bw) (bh := bh) HRR.out (h15.eq (by ac_rfl))⟩
end Go.Proofs.YtdobgebdlbckoaaGreatDoor.TpM
