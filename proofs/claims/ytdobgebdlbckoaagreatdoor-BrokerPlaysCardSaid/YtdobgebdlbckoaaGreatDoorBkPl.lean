import Derived.Test.YtdobgebdlbckoaaGreatDoorBkQA
import Derived.Test.YtdobgebdlbckoaaGreatDoorBkG
import Derived.Test.YtdobgebdlbckoaaGreatDoorBkW
import Derived.Test.YtdobgebdlbckoaaGreatDoorBkO
namespace Go.Proofs.YtdobgebdlbckoaaGreatDoor.BkPl
open Go Go.RowKit Go.Proofs Go.Proofs.YtdobgebdlbckoaaGreatDoor.Sep Go.Proofs.YtdobgebdlbckoaaGreatDoor.Reg Go.Proofs.YtdobgebdlbckoaaGreatDoor.Frame Go.Proofs.YtdobgebdlbckoaaGreatDoor.Slc Go.Proofs.YtdobgebdlbckoaaGreatDoor.Held Go.Proofs.YtdobgebdlbckoaaGreatDoor.HeldG Go.Proofs.YtdobgebdlbckoaaGreatDoor.Mp Go.Proofs.YtdobgebdlbckoaaGreatDoor.WdP Go.Proofs.YtdobgebdlbckoaaGreatDoor.WdN Go.Proofs.YtdobgebdlbckoaaGreatDoor.TpP Go.Proofs.YtdobgebdlbckoaaGreatDoor.TpA Go.Proofs.YtdobgebdlbckoaaGreatDoor.TpI Go.Proofs.YtdobgebdlbckoaaGreatDoor.TpL Go.Proofs.YtdobgebdlbckoaaGreatDoor.TpR Go.Proofs.YtdobgebdlbckoaaGreatDoor.BkP Go.Proofs.YtdobgebdlbckoaaGreatDoor.BkA Go.Proofs.YtdobgebdlbckoaaGreatDoor.BkB Go.Proofs.YtdobgebdlbckoaaGreatDoor.BkD Go.Proofs.YtdobgebdlbckoaaGreatDoor.BkS Go.Proofs.YtdobgebdlbckoaaGreatDoor.BkW Go.Proofs.YtdobgebdlbckoaaGreatDoor.BkG Go.Proofs.YtdobgebdlbckoaaGreatDoor.BkLp Go.Proofs.YtdobgebdlbckoaaGreatDoor.BkU Go.Proofs.YtdobgebdlbckoaaGreatDoor.BkPp Go.Proofs.YtdobgebdlbckoaaGreatDoor.BkQ Go.Proofs.YtdobgebdlbckoaaGreatDoor.BkQ2 Go.Proofs.YtdobgebdlbckoaaGreatDoor.BkQ3 Go.Proofs.YtdobgebdlbckoaaGreatDoor.BkQ4 Go.Proofs.YtdobgebdlbckoaaGreatDoor.BkQ5

def CB (xb q : Nat) (xk : Int) (v : Value) (w : World) : Prop := w.cell? ⟨xb, 1, none⟩ = some (.int .i64 xk) ∧ w.cell? ⟨q, 1, none⟩ = some v
theorem same_of {f : FuncId} {args : Array Value} {w : World} {b c : Bool} (h : Calls Tryz.prog f args w (Makes w (.bool b))) (e : b = c) : Calls Tryz.prog f args w (Makes w (.bool c)) := e ▸ h
theorem doB_len (b : BS) (id op : Int) (s : Tx) (h : b.2.length ≤ 1000) : (doB b id op s).1.length ≤ 1000 := by
  unfold doB
  split
  · split
    · simp
    · split
      · unfold subB; split <;> simp
      · split
        · unfold unsubB; split <;> simp
        · unfold pubB
          simp only [List.length_map]
          exact Nat.le_trans (ofP_le _ _) h
  · simp
def trJ : Tr := .plain 0 (.plain 1 (.held 2 (.plain 4 (.plain 5 (.held 6 (.one 3 (.one 7 (.plain 8 .done))))))))
def tr29 : Tr := .plain 0 (.plain 1 (.held 2 (.plain 4 (.one 3 (.plain 5 (.plain 6 (.plain 7 (.plain 9 (.one 8 (.one 10 (.one 11 (.plain 12 (.plain 13 (.plain 14 (.plain 15 (.plain 16 (.held 17 (.plain 19 (.plain 20 (.plain 21 (.held 22 (.plain 23 (.held 24 (.one 18 (.one 25 (.one 26 (.plain 27 (.plain 28 (.plain 29 (.plain 30 (.plain 32 (.plain 33 (.plain 34 (.held 35 (.one 31 (.one 36 (.one 37 (.plain 38 (.plain 39 (.done))))))))))))))))))))))))))))))))))))))))
set_option maxRecDepth 100000 in
set_option maxHeartbeats 32000000 in
theorem plays_any {W : World} (hG : Gl W) (a0 : Option Addr) (len0 cap0 : Nat) (xs : List BkG.Act) (hlen : xs.length = len0) (hsl : Sl W 4 (.slice a0 len0 cap0) len0 (xs.flatMap ActC.E)) (_ : ∀ x ∈ xs, ActC.Ok x) :
    Calls Tryz.prog 4 #[.slice a0 len0 cap0] W (Law W emp) := by
  have HSL := Lib.hid hsl
  have HLEN := Lib.hid hlen
  have HG := Lib.hid hG
  have HGr := Lib.hid (Great_any a0 len0 cap0 xs hlen W hsl)
  clear hsl hlen hG
  go_enter Tryz.func4, Tryz.ntmps4
  go_wp2_with fail
  refine HGr.out.mono ?_
  rintro e w1 ⟨gb, hq, hgb⟩
  have h1 := (St.start W).makes hq
  obtain ⟨rfl, -⟩ := hq
  clear HGr
  cases gb with
  | true =>
    have HW := Lib.hid (wakes_any HG.out h1)
    go_wp2_with fail
    refine HW.out.mono ?_
    rintro e w2 ⟨rfl, h2⟩
    go_wp2
    go_ret
    exact ⟨rfl, h2⟩
  | false =>
    obtain ⟨hl150, hl100⟩ := hgb rfl
    have HL := Lib.hid hl100
    have hb : len0 ≤ 150 := by have := HLEN.out; omega
    clear hgb hl100 hl150
    have HN := Lib.hid (BkA.New_any h1)
    go_wp2_with fail
    refine HN.out.mono ?_
    rintro e w2 ⟨p, rfl, h2⟩
    clear HN h1
    have h3 := h2.alloc (.cells #[.slice none 0 0, .slice none 0 0] 47 (0, 0))
    go_wp2_with fail
    obtain ⟨q, hq⟩ : ∃ q, w2.heap.size = q := ⟨_, rfl⟩
    rw [hq] at h3
    rw [hq]
    generalize w2.alloc (.cells #[.slice none 0 0, .slice none 0 0] 47 (0, 0)) = w3 at *
    have h4 : St W w3 (star (IsB p ([], [])) (star (IsW q ([], [])) emp)) := by
      have := ((h3.nilRow (e := 83) (size := 2)).nilRow (e := 52) (size := 2)).eq (B := star (pt q (.cells #[.slice none 0 0, .slice none 0 0] 47 (0, 0))) (star (Row 52 2 (.slice none 0 0) 0 []) (star (Row 83 2 (.slice none 0 0) 0 []) (star (IsB p ([], [])) emp)))) (by ac_rfl)
      exact (St.toW (b := ([], [])) this).swap
    clear h2 h3 hq
    go_loopw [5] (fun iv wr => ∃ (i : Nat) (b : BS), i ≤ len0 ∧ iv = .int .i64 i ∧ Hid (Inv b i) ∧ Hid (KN b) ∧ St W wr (star (IsB p b) (star (IsW q b) emp))) (fun iv _ => len0 - (intOf iv).toNat)
    case atStart => exact ⟨0, ([], []), Nat.zero_le _, rfl, Lib.hid Inv.nil, Lib.hid KN.nil, h4⟩
    case round =>
     as_aux_lemma =>
      obtain ⟨i, b, hi, rfl, HI, HK, hS⟩ := hrel
      clear h4
      by_cases hin : i < len0
      · obtain ⟨x, hx⟩ : ∃ x, xs[i]? = some x := ⟨_, List.getElem?_eq_getElem (by rw [HLEN.out]; exact hin)⟩
        obtain ⟨ab, ao, rfl, hel⟩ := act_at_all HSL.out hx
        have hxl := HL.out x (List.mem_of_getElem? hx)
        have e0 := hel _ _ hS 0 _ rfl
        rw [Nat.add_zero] at e0
        have e1 := hel _ _ hS 1 _ rfl
        have e2 := hel _ _ hS 2 _ rfl
        have e3 := hel _ _ hS 3 _ rfl
        obtain ⟨xd, xk, xo, xt⟩ := x
        dsimp only at hxl
        have hinI : (i : Int) < len0 := by omega
        clear hel hx
        have hA := hS.alloc (.cells #[.int .u8 xd, .int .i64 xk, .int .i64 xo, .string ⟨xt.toArray⟩] 28 (0, 0))
        obtain ⟨xb, hxb⟩ : ∃ z, wr.heap.size = z := ⟨_, rfl⟩
        rw [hxb] at hA
        go_upto_region 9 with fail
        clear hxb hS e0 e1 e2 e3
        generalize wr.alloc (.cells #[.int .u8 xd, .int .i64 xk, .int .i64 xo, .string ⟨xt.toArray⟩] 28 (0, 0)) = wa at *
        obtain ⟨AX, hAX⟩ : ∃ A : Asn, pt xb (.cells #[.int .u8 xd, .int .i64 xk, .int .i64 xo, .string ⟨xt.toArray⟩] 28 (0, 0)) = A := ⟨_, rfl⟩
        rw [hAX] at hA
        have HX : Hid (∀ w' B, St W w' (star AX B) → w'.cell? ⟨xb, 0, none⟩ = some (.int .u8 xd) ∧ w'.cell? ⟨xb, 1, none⟩ = some (.int .i64 xk) ∧ w'.cell? ⟨xb, 2, none⟩ = some (.int .i64 xo) ∧ w'.cell? ⟨xb, 3, none⟩ = some (.string ⟨xt.toArray⟩)) := Lib.hid fun w' B h => by
          rw [← hAX] at h
          exact ⟨h.cell 0 rfl, h.cell 1 rfl, h.cell 2 rfl, h.cell 3 rfl⟩
        clear hAX
        have hbl1 : b.1.length ≤ 1000 := by have := HI.out.ok.few; omega
        have hbl2 : b.2.length ≤ 1000 := by have := HI.out.ok.prs; omega
        have c0 := (HX.out wa _ hA).1
        have hC : St W wa (star (IsB p b) (star (IsW q b) (star AX emp))) := hA.eq (by ac_rfl)
        clear hA
        go_upto_block 2 with fail
        clear c0
        go_cut [7, 8, 9] from 30 to 87 (fun _ _ _ wx => ∃ bn : BS, Hid (Inv bn (i + 1)) ∧ Hid (KN bn) ∧ St W wx (star (IsB p bn) (star (IsW q bn) (star AX emp))))
        case first =>
         as_aux_lemma =>
          by_cases hd0 : xd = 0
          · subst hd0
            have c1 : wa.drew.cell? ⟨xb, 1, none⟩ = some (.int .i64 xk) ∧ True := ⟨(HX.out _ _ (hC.drew.eq (B := star AX (star (IsB p b) (star (IsW q b) emp))) (by ac_rfl))).2.1, trivial⟩
            have HJ := Lib.hid (Join_any p b hC.drew xk)
            have HI2 := Lib.hid (HI.out.join xk)
            have HK2 := Lib.hid (HK.out.join xk)
            have HW := Lib.hid fun (w' : World) (R : Asn) (hw : St W w' (star (IsW q b) R)) => rJoin_any q b hw (by omega) xk
            obtain ⟨⟨rv, bn⟩, hr⟩ : ∃ r, joinB b xk = r := ⟨_, rfl⟩
            rw [hr] at HJ HI2 HK2 HW
            go_wp2_with fail
            refine Go.Proofs.YtdobgebdlbckoaaGreatDoor.Held.wp_region_held (fun w' => w'.cell? ⟨xb, 1, none⟩ = some (.int .i64 xk)) [] trJ (by kernel_rfl) (by kernel_rfl) c1.1 ?_
            clear hr c1 hC
            generalize wa.drew = wd at *
            unfold trJ
            refine tr_plain (.pointer (some ⟨p, 0, none⟩)) rfl ?_ (by simp only [nthOp, Act.put, List.setIfInBounds_toArray, List.set_cons_succ, List.set_cons_zero]; rfl) ?_
            · exact fun _ => rfl
            refine tr_plain (.pointer (some ⟨xb, 1, none⟩)) rfl ?_ (by simp only [nthOp, Act.put, List.setIfInBounds_toArray, List.set_cons_succ, List.set_cons_zero]; rfl) ?_
            · (intro w'; simp only [nthOp]; go_simp)
            refine tr_held (.int .i64 xk) rfl ?_ (by simp only [nthOp, Act.put, List.setIfInBounds_toArray, List.set_cons_succ, List.set_cons_zero]; rfl) ?_
            · (intro w' hc1; simp only [nthOp]; go_simp)
            refine tr_plain (.pointer (some ⟨q, 0, none⟩)) rfl ?_ (by simp only [nthOp, Act.put, List.setIfInBounds_toArray, List.set_cons_succ, List.set_cons_zero]; rfl) ?_
            · exact fun _ => rfl
            refine tr_plain (.pointer (some ⟨xb, 1, none⟩)) rfl ?_ (by simp only [nthOp, Act.put, List.setIfInBounds_toArray, List.set_cons_succ, List.set_cons_zero]; rfl) ?_
            · (intro w'; simp only [nthOp]; go_simp)
            refine tr_held (.int .i64 xk) rfl ?_ (by simp only [nthOp, Act.put, List.setIfInBounds_toArray, List.set_cons_succ, List.set_cons_zero]; rfl) ?_
            · (intro w' hc1; simp only [nthOp]; go_simp)
            refine tr_one ?_
            simp only [nthOp]
            go_wp2_with fail
            refine HJ.out.mono ?_
            rintro e w4 ⟨rfl, h4⟩
            have h5 := h4.eq (B := star (IsW q b) (star AX (star (IsB p bn) emp))) (by show star _ (star _ (star _ _)) = _; ac_rfl)
            have c4 := HX.out w4 _ (h5.eq (B := star AX (star (IsW q b) (star (IsB p bn) emp))) (by ac_rfl))
            have HW2 := Lib.hid (HW.out _ _ h5)
            clear HJ HW h4 h5
            go_wp2_with fail
            simp only [Reg.Next]
            refine ⟨fun _ => c4.2.1, tr_one ?_⟩
            simp only [nthOp]
            go_wp2_with fail
            refine HW2.out.mono ?_
            rintro e w5 ⟨rfl, h5⟩
            have h6 := h5.eq (B := star AX (star (IsB p bn) (star (IsW q bn) emp))) (by show star _ (star _ (star _ _)) = _; ac_rfl)
            have c5 := HX.out w5 _ h6
            clear HW2 h5
            go_wp2_with fail
            simp only [Reg.Next]
            refine ⟨fun _ => c5.2.1, ?_⟩
            refine tr_plain (.bool false) rfl ?_ (by simp only [nthOp, Act.put, List.setIfInBounds_toArray, List.set_cons_succ, List.set_cons_zero]; rfl) ?_
            · (intro w'; simp only [nthOp]; go_simp)
            refine tr_done ?_
            clear c4 c5
            go_wp2_with fail
            go_meet
            exact ⟨bn, HI2, HK2, h6.eq (by ac_rfl)⟩
          · have hd0b : (xd == 0) = false := by simpa using hd0
            by_cases hd1 : xd = 1
            · subst hd1
              have c1 : wa.drew.cell? ⟨xb, 1, none⟩ = some (.int .i64 xk) ∧ True := ⟨(HX.out _ _ (hC.drew.eq (B := star AX (star (IsB p b) (star (IsW q b) emp))) (by ac_rfl))).2.1, trivial⟩
              have HJ := Lib.hid (Leave_any p b hC.drew (by omega) xk)
              have HI2 := Lib.hid (HI.out.leave xk)
              have HK2 := Lib.hid (HK.out.leave xk)
              have HW := Lib.hid fun (w' : World) (R : Asn) (hw : St W w' (star (IsW q b) R)) => rLeave_any q b hw (by omega) (by omega) HK.out xk
              obtain ⟨⟨rv, bn⟩, hr⟩ : ∃ r, leaveB b xk = r := ⟨_, rfl⟩
              rw [hr] at HJ HI2 HK2 HW
              go_wp2_with fail
              refine Go.Proofs.YtdobgebdlbckoaaGreatDoor.Held.wp_region_held (fun w' => w'.cell? ⟨xb, 1, none⟩ = some (.int .i64 xk)) [] trJ (by kernel_rfl) (by kernel_rfl) c1.1 ?_
              clear hr c1 hC
              generalize wa.drew = wd at *
              unfold trJ
              refine tr_plain (.pointer (some ⟨p, 0, none⟩)) rfl ?_ (by simp only [nthOp, Act.put, List.setIfInBounds_toArray, List.set_cons_succ, List.set_cons_zero]; rfl) ?_
              · exact fun _ => rfl
              refine tr_plain (.pointer (some ⟨xb, 1, none⟩)) rfl ?_ (by simp only [nthOp, Act.put, List.setIfInBounds_toArray, List.set_cons_succ, List.set_cons_zero]; rfl) ?_
              · (intro w'; simp only [nthOp]; go_simp)
              refine tr_held (.int .i64 xk) rfl ?_ (by simp only [nthOp, Act.put, List.setIfInBounds_toArray, List.set_cons_succ, List.set_cons_zero]; rfl) ?_
              · (intro w' hc1; simp only [nthOp]; go_simp)
              refine tr_plain (.pointer (some ⟨q, 0, none⟩)) rfl ?_ (by simp only [nthOp, Act.put, List.setIfInBounds_toArray, List.set_cons_succ, List.set_cons_zero]; rfl) ?_
              · exact fun _ => rfl
              refine tr_plain (.pointer (some ⟨xb, 1, none⟩)) rfl ?_ (by simp only [nthOp, Act.put, List.setIfInBounds_toArray, List.set_cons_succ, List.set_cons_zero]; rfl) ?_
              · (intro w'; simp only [nthOp]; go_simp)
              refine tr_held (.int .i64 xk) rfl ?_ (by simp only [nthOp, Act.put, List.setIfInBounds_toArray, List.set_cons_succ, List.set_cons_zero]; rfl) ?_
              · (intro w' hc1; simp only [nthOp]; go_simp)
              refine tr_one ?_
              simp only [nthOp]
              go_wp2_with fail
              refine HJ.out.mono ?_
              rintro e w4 ⟨rfl, h4⟩
              have h5 := h4.eq (B := star (IsW q b) (star AX (star (IsB p bn) emp))) (by show star _ (star _ (star _ _)) = _; ac_rfl)
              have c4 := HX.out w4 _ (h5.eq (B := star AX (star (IsW q b) (star (IsB p bn) emp))) (by ac_rfl))
              have HW2 := Lib.hid (HW.out _ _ h5)
              clear HJ HW h4 h5
              go_wp2_with fail
              simp only [Reg.Next]
              refine ⟨fun _ => c4.2.1, tr_one ?_⟩
              simp only [nthOp]
              go_wp2_with fail
              refine HW2.out.mono ?_
              rintro e w5 ⟨rfl, h5⟩
              have h6 := h5.eq (B := star AX (star (IsB p bn) (star (IsW q bn) emp))) (by show star _ (star _ (star _ _)) = _; ac_rfl)
              have c5 := HX.out w5 _ h6
              clear HW2 h5
              go_wp2_with fail
              simp only [Reg.Next]
              refine ⟨fun _ => c5.2.1, ?_⟩
              refine tr_plain (.bool false) rfl ?_ (by simp only [nthOp, Act.put, List.setIfInBounds_toArray, List.set_cons_succ, List.set_cons_zero]; rfl) ?_
              · (intro w'; simp only [nthOp]; go_simp)
              refine tr_done ?_
              clear c4 c5
              go_wp2_with fail
              go_meet
              exact ⟨bn, HI2, HK2, h6.eq (by ac_rfl)⟩
            · have hd1b : (xd == 1) = false := by simpa using hd1
              clear hd0 hd1
              have HD := Lib.hid (Do_any p b hC (by omega) (fun e he => Nat.le_trans (HI.out.ok.ids e he).2.2 (by omega)) HG.out xk xo xt (by omega))
              have HW := Lib.hid fun (w' : World) (R : Asn) (hw : St W w' (star (IsW q b) R)) => rDo_any q b hw HI.out (by omega) HK.out xk xo xt (by omega)
              have HI2 := Lib.hid (HI.out.do_ xk xo xt)
              have HK2 := Lib.hid (HK.out.do_ xk xo xt)
              have hol : (doB b xk xo xt).1.length ≤ 1000 := doB_len b xk xo xt hbl2
              generalize doB b xk xo xt = r at *
              obtain ⟨-, c1, c2, c3⟩ := HX.out wa _ (hC.eq (B := star AX (star (IsB p b) (star (IsW q b) emp))) (by ac_rfl))
              go_wp2_with fail
              refine HD.out.mono ?_
              rintro e w4 ⟨oa, on, oc, rfl, hon, h4⟩
              clear HD hC c1 c2 c3
              have h5 := h4.eq (B := star (IsW q b) (star AX (star (Row 40 3 (.slice oa on oc) on (outsV r.1)) (star (IsB p r.2) emp)))) (by ac_rfl)
              obtain ⟨-, c1, c2, c3⟩ := HX.out w4 _ (h5.eq (B := star AX (star (IsW q b) (star (Row 40 3 (.slice oa on oc) on (outsV r.1)) (star (IsB p r.2) emp)))) (by ac_rfl))
              have HW2 := Lib.hid (HW.out _ _ h5)
              clear HW h4 h5
              go_wp2_with fail
              refine HW2.out.mono ?_
              rintro e w5 ⟨ra, rn, rc, rfl, hrn, h5⟩
              obtain rfl : on = rn := hon.symm.trans hrn
              have HON := Lib.hid hon
              rw [hon] at hol
              clear HW2 c1 c2 c3 hon hrn
              have h6 := h5.eq (B := star (Row 40 3 (.slice oa on oc) on (outsV r.1)) (star (Row 50 3 (.slice ra on rc) on (outsV r.1)) (star (IsB p r.2) (star (IsW q r.2) (star AX emp))))) (by ac_rfl)
              clear h5
              go_wp2_with fail
              go_loopw [9] (fun jv wz => ∃ j : Nat, j ≤ on ∧ jv = .int .i64 j ∧ St W wz (star (Row 40 3 (.slice oa on oc) on (outsV r.1)) (star (Row 50 3 (.slice ra on rc) on (outsV r.1)) (star (IsB p r.2) (star (IsW q r.2) (star AX emp)))))) (fun jv _ => on - (intOf jv).toNat)
              case atStart => exact ⟨0, Nat.zero_le _, rfl, h6⟩
              case round =>
                obtain ⟨j, hj, rfl, hT⟩ := hrel
                clear h6
                by_cases hjn : j < on
                · obtain ⟨o, ho⟩ : ∃ o, r.1[j]? = some o := ⟨_, List.getElem?_eq_getElem (by rw [HON.out]; exact hjn)⟩
                  obtain ⟨qb, qo, rfl, o1, o2, o3⟩ := elO hT.rowSl ho
                  obtain ⟨rb, ro, rfl, p1, p2, p3⟩ := elO hT.right.rowSl ho
                  obtain ⟨y1, y2, y3⟩ := o
                  have hjI : (j : Int) < on := by omega
                  clear ho
                  go_wp2_with fail
                  go_big_quiet (fail)
                  go_wp2_with fail
                  exact ⟨⟨j + 1, hjn, by go_num, hT.drewN nq⟩, by simp [intOf]; omega⟩
                · obtain rfl : on = j := by omega
                  go_wp2_with fail
                  go_meet
                  exact ⟨r.2, HI2, HK2, hT.right.right⟩
        case rest =>
         as_aux_lemma =>
          obtain ⟨bn, HI2, HK2, hR⟩ := hcut
          clear hC HI HK hbl1 hbl2
          have hbl1 : bn.1.length ≤ 1000 := by have := HI2.out.ok.few; omega
          have hbl2 : bn.2.length ≤ 1000 := by have := HI2.out.ok.prs; omega
          have h5 := hR.eq (B := star (IsW q bn) (star AX (star (IsB p bn) emp))) (by ac_rfl)
          have c1 := (HX.out wc _ (h5.eq (B := star AX (star (IsW q bn) (star (IsB p bn) emp))) (by ac_rfl))).2.1
          obtain ⟨z, hz⟩ : ∃ z, atM bn.1 xk = z := ⟨_, rfl⟩
          have HA := Lib.hid (rAt_any q bn h5 (by omega) xk z hz)
          have HSN : Hid ((sortI (bn.1.map (·.1))).length = bn.1.length) := Lib.hid (by rw [sortI_len]; simp)
          have hby : (byP bn.2 xk).length ≤ 1000 := Nat.le_trans (byP_le _ _) hbl2
          have hof : (ofP bn.2 [97]).length ≤ 1000 := Nat.le_trans (ofP_le _ _) hbl2
          have HZ := Lib.hid hz
          obtain ⟨pn, hpn⟩ : ∃ n, (getM xk bn.1).getD 0 = n := ⟨_, rfl⟩
          have HPN := Lib.hid hpn
          clear hR hz hpn
          go_wp2_with fail
          refine HA.out.mono ?_
          rintro e w4 hq4
          have h6 := h5.makes hq4
          obtain ⟨rfl, -⟩ := hq4
          obtain ⟨la, lc, pa, pc, h7⟩ := St.isW h6
          clear HA c1 h5 h6
          cases hm : isM bn xk
          · have hzq : z = -1 := by rw [← HZ.out, atM_out hm]
            have hp0 : pn = 0 := by rw [← HPN.out]; unfold isM at hm; cases e : getM xk bn.1 with | none => rfl | some v => rw [e] at hm; cases hm
            subst hzq hp0
            have HPB : Hid (∀ (w' : World) (R : Asn), St W w' (star (IsB p bn) R) → Calls Tryz.prog 17 #[.pointer (some ⟨p, 0, none⟩), .int .i64 xk] w' fun e w'' => e = .returned (.int .i64 ((0 : Nat) : Int)) ∧ w' = w'') := Lib.hid fun w' R h => by have := Published_any p bn h xk; rwa [HPN.out] at this
            clear hm
            go_upto_region 29 with fail
            have j0 := (h7.drew).eq (B := star (pt q (.cells #[.slice la bn.1.length lc, .slice pa bn.2.length pc] 47 (0, 0))) (star (Row 52 2 (.slice la bn.1.length lc) bn.1.length (msV bn.1)) (star (Row 83 2 (.slice pa bn.2.length pc) bn.2.length (psV bn.2)) (star (IsB p bn) (star (AX) (emp)))))) (by ac_rfl)
            refine wp_region_heldG (CB xb q xk (.slice pa bn.2.length pc)) [] tr29 (by kernel_rfl) (by kernel_rfl) ⟨(HX.out _ _ (j0.eq (B := star (AX) (star (pt q (.cells #[.slice la bn.1.length lc, .slice pa bn.2.length pc] 47 (0, 0))) (star (Row 52 2 (.slice la bn.1.length lc) bn.1.length (msV bn.1)) (star (Row 83 2 (.slice pa bn.2.length pc) bn.2.length (psV bn.2)) (star (IsB p bn) (emp)))))) (by ac_rfl))).2.1, j0.cell 1 rfl⟩ ?_
            clear h7
            generalize w4.drew = z0 at *
            unfold tr29
            refine trG_plain (.pointer (some ⟨p, 0, none⟩)) rfl ?_ (by simp only [nthOp, Act.put, List.setIfInBounds_toArray, List.set_cons_succ, List.set_cons_zero]; rfl) ?_
            · exact fun _ => rfl
            refine trG_plain (.pointer (some ⟨xb, 1, none⟩)) rfl ?_ (by simp only [nthOp, Act.put, List.setIfInBounds_toArray, List.set_cons_succ, List.set_cons_zero]; rfl) ?_
            · intro w'; simp only [nthOp]; go_simp
            refine trG_held (.int .i64 xk) rfl ?_ (by simp only [nthOp, Act.put, List.setIfInBounds_toArray, List.set_cons_succ, List.set_cons_zero]; rfl) ?_
            · (rintro w' ⟨hc1, -⟩; simp only [nthOp]; go_simp)
            refine trG_plain (.int .i64 (0 : Nat)) rfl ?_ (by simp only [nthOp, Act.put, List.setIfInBounds_toArray, List.set_cons_succ, List.set_cons_zero]; rfl) ?_
            · exact fun _ => rfl
            refine trG_one ?_
            have k2 := j0.eq (B := star (IsB p bn) (star (pt q (.cells #[.slice la bn.1.length lc, .slice pa bn.2.length pc] 47 (0, 0))) (star (Row 52 2 (.slice la bn.1.length lc) bn.1.length (msV bn.1)) (star (Row 83 2 (.slice pa bn.2.length pc) bn.2.length (psV bn.2)) (star (AX) (emp)))))) (by ac_rfl)
            have H1 := Lib.hid (HPB.out _ _ k2)
            simp only [nthOp]
            go_wp2_with fail
            refine H1.out.mono ?_
            rintro e y1 ⟨rfl, rfl⟩
            have k1 := k2
            have k4 := k1.eq (B := star (AX) (star (pt q (.cells #[.slice la bn.1.length lc, .slice pa bn.2.length pc] 47 (0, 0))) (star (IsB p bn) (star (Row 52 2 (.slice la bn.1.length lc) bn.1.length (msV bn.1)) (star (Row 83 2 (.slice pa bn.2.length pc) bn.2.length (psV bn.2)) (emp)))))) (by ac_rfl)
            have c3 := (⟨(HX.out _ _ k4).2.1, k4.right.cell 1 rfl⟩ : CB xb q xk (.slice pa bn.2.length pc) _)
            clear H1
            go_wp2_with fail
            simp only [Reg.Next]
            first | refine ⟨fun _ => c3, ?_⟩ | refine ⟨c3, ?_⟩ | skip
            refine trG_plain (.bool false) rfl ?_ (by simp only [nthOp, Act.put, List.setIfInBounds_toArray, List.set_cons_succ, List.set_cons_zero]; rfl) ?_
            · intro w'; simp only [nthOp]; go_simp
            refine trG_plain (.bool false) rfl ?_ (by simp only [nthOp, Act.put, List.setIfInBounds_toArray, List.set_cons_succ, List.set_cons_zero]; rfl) ?_
            · exact fun _ => rfl
            refine trG_plain (.pointer (some ⟨p, 0, none⟩)) rfl ?_ (by simp only [nthOp, Act.put, List.setIfInBounds_toArray, List.set_cons_succ, List.set_cons_zero]; rfl) ?_
            · exact fun _ => rfl
            refine trG_plain (.pointer (some ⟨q, 0, none⟩)) rfl ?_ (by simp only [nthOp, Act.put, List.setIfInBounds_toArray, List.set_cons_succ, List.set_cons_zero]; rfl) ?_
            · exact fun _ => rfl
            refine trG_one ?_
            have k6 := k1.eq (B := star (IsB p bn) (star (pt q (.cells #[.slice la bn.1.length lc, .slice pa bn.2.length pc] 47 (0, 0))) (star (Row 52 2 (.slice la bn.1.length lc) bn.1.length (msV bn.1)) (star (Row 83 2 (.slice pa bn.2.length pc) bn.2.length (psV bn.2)) (star (AX) (emp)))))) (by ac_rfl)
            have H5 := Lib.hid (Members_any p bn k6 (by omega))
            simp only [nthOp]
            go_wp2_with fail
            refine H5.out.mono ?_
            rintro e y5 ⟨a5, c5, rfl, k5⟩
            have k8 := k5.eq (B := star (AX) (star (pt q (.cells #[.slice la bn.1.length lc, .slice pa bn.2.length pc] 47 (0, 0))) (star (Row 3 1 (.slice a5 bn.1.length c5) bn.1.length ((sortI (bn.1.map (·.1))).map kI)) (star (IsB p bn) (star (Row 52 2 (.slice la bn.1.length lc) bn.1.length (msV bn.1)) (star (Row 83 2 (.slice pa bn.2.length pc) bn.2.length (psV bn.2)) (emp))))))) (by ac_rfl)
            have c7 := (⟨(HX.out _ _ k8).2.1, k8.right.cell 1 rfl⟩ : CB xb q xk (.slice pa bn.2.length pc) _)
            clear H5
            go_wp2_with fail
            simp only [Reg.Next]
            first | refine ⟨fun _ => c7, ?_⟩ | refine ⟨c7, ?_⟩ | skip
            refine trG_one ?_
            have k10 := k5.eq (B := star (pt q (.cells #[.slice la bn.1.length lc, .slice pa bn.2.length pc] 47 (0, 0))) (star (Row 52 2 (.slice la bn.1.length lc) bn.1.length (msV bn.1)) (star (Row 3 1 (.slice a5 bn.1.length c5) bn.1.length ((sortI (bn.1.map (·.1))).map kI)) (star (IsB p bn) (star (Row 83 2 (.slice pa bn.2.length pc) bn.2.length (psV bn.2)) (star (AX) (emp))))))) (by ac_rfl)
            have H9 := Lib.hid (rMembers_any q bn.1 bn.1.length rfl la lc _ k10 (by omega))
            simp only [nthOp]
            go_wp2_with fail
            refine H9.out.mono ?_
            rintro e y9 ⟨a9, c9, rfl, k9⟩
            have k12 := k9.eq (B := star (AX) (star (pt q (.cells #[.slice la bn.1.length lc, .slice pa bn.2.length pc] 47 (0, 0))) (star (Row 3 1 (.slice a9 bn.1.length c9) bn.1.length ((sortI (bn.1.map (·.1))).map kI)) (star (Row 52 2 (.slice la bn.1.length lc) bn.1.length (msV bn.1)) (star (Row 3 1 (.slice a5 bn.1.length c5) bn.1.length ((sortI (bn.1.map (·.1))).map kI)) (star (IsB p bn) (star (Row 83 2 (.slice pa bn.2.length pc) bn.2.length (psV bn.2)) (emp)))))))) (by ac_rfl)
            have c11 := (⟨(HX.out _ _ k12).2.1, k12.right.cell 1 rfl⟩ : CB xb q xk (.slice pa bn.2.length pc) _)
            clear H9
            go_wp2_with fail
            simp only [Reg.Next]
            first | refine ⟨fun _ => c11, ?_⟩ | refine ⟨c11, ?_⟩ | skip
            refine trG_one ?_
            have k14 := k9.eq (B := star (Row 3 1 (.slice a5 bn.1.length c5) bn.1.length ((sortI (bn.1.map (·.1))).map kI)) (star (Row 3 1 (.slice a9 bn.1.length c9) bn.1.length ((sortI (bn.1.map (·.1))).map kI)) (star (pt q (.cells #[.slice la bn.1.length lc, .slice pa bn.2.length pc] 47 (0, 0))) (star (Row 52 2 (.slice la bn.1.length lc) bn.1.length (msV bn.1)) (star (IsB p bn) (star (Row 83 2 (.slice pa bn.2.length pc) bn.2.length (psV bn.2)) (star (AX) (emp)))))))) (by ac_rfl)
            have H13 := Lib.hid (same_of (sameI_any (sortI (bn.1.map (·.1))) (sortI (bn.1.map (·.1))) _ a5 bn.1.length c5 a9 bn.1.length c9 HSN.out HSN.out (by omega) k14.rowSl k14.right.rowSl) (decide_eq_true rfl))
            simp only [nthOp]
            go_wp2_with fail
            refine H13.out.mono ?_
            rintro e y13 hq13
            have k13 := (k14.makes hq13).right.right
            obtain ⟨rfl, -⟩ := hq13
            have k16 := k13.eq (B := star (AX) (star (pt q (.cells #[.slice la bn.1.length lc, .slice pa bn.2.length pc] 47 (0, 0))) (star (Row 52 2 (.slice la bn.1.length lc) bn.1.length (msV bn.1)) (star (IsB p bn) (star (Row 83 2 (.slice pa bn.2.length pc) bn.2.length (psV bn.2)) (emp)))))) (by ac_rfl)
            have c15 := (⟨(HX.out _ _ k16).2.1, k16.right.cell 1 rfl⟩ : CB xb q xk (.slice pa bn.2.length pc) _)
            clear H13
            go_wp2_with fail
            simp only [Reg.Next]
            first | refine ⟨fun _ => c15, ?_⟩ | refine ⟨c15, ?_⟩ | skip
            refine trG_plain (.bool false) rfl ?_ (by simp only [nthOp, Act.put, List.setIfInBounds_toArray, List.set_cons_succ, List.set_cons_zero]; rfl) ?_
            · intro w'; simp only [nthOp]; go_simp
            refine trG_plain (.bool false) rfl ?_ (by simp only [nthOp, Act.put, List.setIfInBounds_toArray, List.set_cons_succ, List.set_cons_zero]; rfl) ?_
            · intro w'; simp only [nthOp]; go_simp
            refine trG_plain (.bool false) rfl ?_ (by simp only [nthOp, Act.put, List.setIfInBounds_toArray, List.set_cons_succ, List.set_cons_zero]; rfl) ?_
            · exact fun _ => rfl
            refine trG_plain (.pointer (some ⟨p, 0, none⟩)) rfl ?_ (by simp only [nthOp, Act.put, List.setIfInBounds_toArray, List.set_cons_succ, List.set_cons_zero]; rfl) ?_
            · exact fun _ => rfl
            refine trG_plain (.pointer (some ⟨xb, 1, none⟩)) rfl ?_ (by simp only [nthOp, Act.put, List.setIfInBounds_toArray, List.set_cons_succ, List.set_cons_zero]; rfl) ?_
            · intro w'; simp only [nthOp]; go_simp
            refine trG_held (.int .i64 xk) rfl ?_ (by simp only [nthOp, Act.put, List.setIfInBounds_toArray, List.set_cons_succ, List.set_cons_zero]; rfl) ?_
            · (rintro w' ⟨hc1, -⟩; simp only [nthOp]; go_simp)
            refine trG_plain (.pointer (some ⟨q, 0, none⟩)) rfl ?_ (by simp only [nthOp, Act.put, List.setIfInBounds_toArray, List.set_cons_succ, List.set_cons_zero]; rfl) ?_
            · exact fun _ => rfl
            refine trG_plain (.pointer (some ⟨q, 0, none⟩)) rfl ?_ (by simp only [nthOp, Act.put, List.setIfInBounds_toArray, List.set_cons_succ, List.set_cons_zero]; rfl) ?_
            · intro w'; simp only [nthOp]; go_simp
            refine trG_plain (.pointer (some ⟨q, 1, none⟩)) rfl ?_ (by simp only [nthOp, Act.put, List.setIfInBounds_toArray, List.set_cons_succ, List.set_cons_zero]; rfl) ?_
            · intro w'; simp only [nthOp]; go_simp
            refine trG_held (.slice pa bn.2.length pc) rfl ?_ (by simp only [nthOp, Act.put, List.setIfInBounds_toArray, List.set_cons_succ, List.set_cons_zero]; rfl) ?_
            · (rintro w' ⟨-, hc1⟩; simp only [nthOp]; go_simp)
            refine trG_plain (.pointer (some ⟨xb, 1, none⟩)) rfl ?_ (by simp only [nthOp, Act.put, List.setIfInBounds_toArray, List.set_cons_succ, List.set_cons_zero]; rfl) ?_
            · intro w'; simp only [nthOp]; go_simp
            refine trG_held (.int .i64 xk) rfl ?_ (by simp only [nthOp, Act.put, List.setIfInBounds_toArray, List.set_cons_succ, List.set_cons_zero]; rfl) ?_
            · (rintro w' ⟨hc1, -⟩; simp only [nthOp]; go_simp)
            refine trG_one ?_
            have k18 := k13.eq (B := star (IsB p bn) (star (pt q (.cells #[.slice la bn.1.length lc, .slice pa bn.2.length pc] 47 (0, 0))) (star (Row 52 2 (.slice la bn.1.length lc) bn.1.length (msV bn.1)) (star (Row 83 2 (.slice pa bn.2.length pc) bn.2.length (psV bn.2)) (star (AX) (emp)))))) (by ac_rfl)
            have H17 := Lib.hid (Hears_any p bn k18 (by omega) xk)
            simp only [nthOp]
            go_wp2_with fail
            refine H17.out.mono ?_
            rintro e y17 ⟨a17, _, c17, rfl, rfl, k17⟩
            have k20 := k17.eq (B := star (AX) (star (pt q (.cells #[.slice la bn.1.length lc, .slice pa bn.2.length pc] 47 (0, 0))) (star (Row 9 1 (.slice a17 (byP bn.2 xk).length c17) (byP bn.2 xk).length ((byP bn.2 xk).map kS)) (star (IsB p bn) (star (Row 52 2 (.slice la bn.1.length lc) bn.1.length (msV bn.1)) (star (Row 83 2 (.slice pa bn.2.length pc) bn.2.length (psV bn.2)) (emp))))))) (by ac_rfl)
            have c19 := (⟨(HX.out _ _ k20).2.1, k20.right.cell 1 rfl⟩ : CB xb q xk (.slice pa bn.2.length pc) _)
            clear H17
            go_wp2_with fail
            simp only [Reg.Next]
            first | refine ⟨fun _ => c19, ?_⟩ | refine ⟨c19, ?_⟩ | skip
            refine trG_one ?_
            have k22 := k17.eq (B := star (Row 83 2 (.slice pa bn.2.length pc) bn.2.length (psV bn.2)) (star (Row 9 1 (.slice a17 (byP bn.2 xk).length c17) (byP bn.2 xk).length ((byP bn.2 xk).map kS)) (star (IsB p bn) (star (pt q (.cells #[.slice la bn.1.length lc, .slice pa bn.2.length pc] 47 (0, 0))) (star (Row 52 2 (.slice la bn.1.length lc) bn.1.length (msV bn.1)) (star (AX) (emp))))))) (by ac_rfl)
            have H21 := Lib.hid (rBy_any pa bn.2.length pc bn.2 rfl (by omega) xk k22 k22.rowSl)
            simp only [nthOp]
            go_wp2_with fail
            refine H21.out.mono ?_
            rintro e y21 ⟨a21, c21, rfl, k21⟩
            have k24 := k21.eq (B := star (AX) (star (pt q (.cells #[.slice la bn.1.length lc, .slice pa bn.2.length pc] 47 (0, 0))) (star (Row 9 1 (.slice a21 (byP bn.2 xk).length c21) (byP bn.2 xk).length ((byP bn.2 xk).map kS)) (star (Row 83 2 (.slice pa bn.2.length pc) bn.2.length (psV bn.2)) (star (Row 9 1 (.slice a17 (byP bn.2 xk).length c17) (byP bn.2 xk).length ((byP bn.2 xk).map kS)) (star (IsB p bn) (star (Row 52 2 (.slice la bn.1.length lc) bn.1.length (msV bn.1)) (emp)))))))) (by ac_rfl)
            have c23 := (⟨(HX.out _ _ k24).2.1, k24.right.cell 1 rfl⟩ : CB xb q xk (.slice pa bn.2.length pc) _)
            clear H21
            go_wp2_with fail
            simp only [Reg.Next]
            first | refine ⟨fun _ => c23, ?_⟩ | refine ⟨c23, ?_⟩ | skip
            refine trG_one ?_
            have k26 := k21.eq (B := star (Row 9 1 (.slice a17 (byP bn.2 xk).length c17) (byP bn.2 xk).length ((byP bn.2 xk).map kS)) (star (Row 9 1 (.slice a21 (byP bn.2 xk).length c21) (byP bn.2 xk).length ((byP bn.2 xk).map kS)) (star (Row 83 2 (.slice pa bn.2.length pc) bn.2.length (psV bn.2)) (star (IsB p bn) (star (pt q (.cells #[.slice la bn.1.length lc, .slice pa bn.2.length pc] 47 (0, 0))) (star (Row 52 2 (.slice la bn.1.length lc) bn.1.length (msV bn.1)) (star (AX) (emp)))))))) (by ac_rfl)
            have H25 := Lib.hid (same_of (sameS_any (byP bn.2 xk) (byP bn.2 xk) _ a17 (byP bn.2 xk).length c17 a21 (byP bn.2 xk).length c21 rfl rfl (by omega) k26.rowSl k26.right.rowSl) (decide_eq_true rfl))
            simp only [nthOp]
            go_wp2_with fail
            refine H25.out.mono ?_
            rintro e y25 hq25
            have k25 := (k26.makes hq25).right.right
            obtain ⟨rfl, -⟩ := hq25
            have k28 := k25.eq (B := star (AX) (star (pt q (.cells #[.slice la bn.1.length lc, .slice pa bn.2.length pc] 47 (0, 0))) (star (Row 83 2 (.slice pa bn.2.length pc) bn.2.length (psV bn.2)) (star (IsB p bn) (star (Row 52 2 (.slice la bn.1.length lc) bn.1.length (msV bn.1)) (emp)))))) (by ac_rfl)
            have c27 := (⟨(HX.out _ _ k28).2.1, k28.right.cell 1 rfl⟩ : CB xb q xk (.slice pa bn.2.length pc) _)
            clear H25
            go_wp2_with fail
            simp only [Reg.Next]
            first | refine ⟨fun _ => c27, ?_⟩ | refine ⟨c27, ?_⟩ | skip
            refine trG_plain (.bool false) rfl ?_ (by simp only [nthOp, Act.put, List.setIfInBounds_toArray, List.set_cons_succ, List.set_cons_zero]; rfl) ?_
            · intro w'; simp only [nthOp]; go_simp
            refine trG_plain (.bool false) rfl ?_ (by simp only [nthOp, Act.put, List.setIfInBounds_toArray, List.set_cons_succ, List.set_cons_zero]; rfl) ?_
            · intro w'; simp only [nthOp]; go_simp
            refine trG_plain (.bool false) rfl ?_ (by simp only [nthOp, Act.put, List.setIfInBounds_toArray, List.set_cons_succ, List.set_cons_zero]; rfl) ?_
            · exact fun _ => rfl
            refine trG_plain (.pointer (some ⟨p, 0, none⟩)) rfl ?_ (by simp only [nthOp, Act.put, List.setIfInBounds_toArray, List.set_cons_succ, List.set_cons_zero]; rfl) ?_
            · exact fun _ => rfl
            refine trG_plain (.pointer (some ⟨q, 0, none⟩)) rfl ?_ (by simp only [nthOp, Act.put, List.setIfInBounds_toArray, List.set_cons_succ, List.set_cons_zero]; rfl) ?_
            · exact fun _ => rfl
            refine trG_plain (.pointer (some ⟨q, 0, none⟩)) rfl ?_ (by simp only [nthOp, Act.put, List.setIfInBounds_toArray, List.set_cons_succ, List.set_cons_zero]; rfl) ?_
            · intro w'; simp only [nthOp]; go_simp
            refine trG_plain (.pointer (some ⟨q, 1, none⟩)) rfl ?_ (by simp only [nthOp, Act.put, List.setIfInBounds_toArray, List.set_cons_succ, List.set_cons_zero]; rfl) ?_
            · intro w'; simp only [nthOp]; go_simp
            refine trG_held (.slice pa bn.2.length pc) rfl ?_ (by simp only [nthOp, Act.put, List.setIfInBounds_toArray, List.set_cons_succ, List.set_cons_zero]; rfl) ?_
            · (rintro w' ⟨-, hc1⟩; simp only [nthOp]; go_simp)
            refine trG_one ?_
            have k30 := k25.eq (B := star (IsB p bn) (star (Row 83 2 (.slice pa bn.2.length pc) bn.2.length (psV bn.2)) (star (pt q (.cells #[.slice la bn.1.length lc, .slice pa bn.2.length pc] 47 (0, 0))) (star (Row 52 2 (.slice la bn.1.length lc) bn.1.length (msV bn.1)) (star (AX) (emp)))))) (by ac_rfl)
            have H29 := Lib.hid (BkO.Of_any p bn k30 (by omega) [97])
            simp only [nthOp]
            go_wp2_with fail
            refine H29.out.mono ?_
            rintro e y29 ⟨a29, _, c29, rfl, rfl, k29⟩
            have k32 := k29.eq (B := star (AX) (star (pt q (.cells #[.slice la bn.1.length lc, .slice pa bn.2.length pc] 47 (0, 0))) (star (Row 3 1 (.slice a29 (ofP bn.2 [97]).length c29) (ofP bn.2 [97]).length ((ofP bn.2 [97]).map kI)) (star (IsB p bn) (star (Row 83 2 (.slice pa bn.2.length pc) bn.2.length (psV bn.2)) (star (Row 52 2 (.slice la bn.1.length lc) bn.1.length (msV bn.1)) (emp))))))) (by ac_rfl)
            have c31 := (⟨(HX.out _ _ k32).2.1, k32.right.cell 1 rfl⟩ : CB xb q xk (.slice pa bn.2.length pc) _)
            clear H29
            go_wp2_with fail
            simp only [Reg.Next]
            first | refine ⟨fun _ => c31, ?_⟩ | refine ⟨c31, ?_⟩ | skip
            refine trG_one ?_
            have k34 := k29.eq (B := star (Row 83 2 (.slice pa bn.2.length pc) bn.2.length (psV bn.2)) (star (Row 3 1 (.slice a29 (ofP bn.2 [97]).length c29) (ofP bn.2 [97]).length ((ofP bn.2 [97]).map kI)) (star (IsB p bn) (star (pt q (.cells #[.slice la bn.1.length lc, .slice pa bn.2.length pc] 47 (0, 0))) (star (Row 52 2 (.slice la bn.1.length lc) bn.1.length (msV bn.1)) (star (AX) (emp))))))) (by ac_rfl)
            have H33 := Lib.hid (rOf_any pa bn.2.length pc bn.2 rfl (by omega) [97] k34 k34.rowSl)
            simp only [nthOp]
            go_wp2_with fail
            refine H33.out.mono ?_
            rintro e y33 ⟨a33, c33, rfl, k33⟩
            have k36 := k33.eq (B := star (AX) (star (pt q (.cells #[.slice la bn.1.length lc, .slice pa bn.2.length pc] 47 (0, 0))) (star (Row 3 1 (.slice a33 (ofP bn.2 [97]).length c33) (ofP bn.2 [97]).length ((ofP bn.2 [97]).map kI)) (star (Row 83 2 (.slice pa bn.2.length pc) bn.2.length (psV bn.2)) (star (Row 3 1 (.slice a29 (ofP bn.2 [97]).length c29) (ofP bn.2 [97]).length ((ofP bn.2 [97]).map kI)) (star (IsB p bn) (star (Row 52 2 (.slice la bn.1.length lc) bn.1.length (msV bn.1)) (emp)))))))) (by ac_rfl)
            have c35 := (⟨(HX.out _ _ k36).2.1, k36.right.cell 1 rfl⟩ : CB xb q xk (.slice pa bn.2.length pc) _)
            clear H33
            go_wp2_with fail
            simp only [Reg.Next]
            first | refine ⟨fun _ => c35, ?_⟩ | refine ⟨c35, ?_⟩ | skip
            refine trG_one ?_
            have k38 := k33.eq (B := star (Row 3 1 (.slice a29 (ofP bn.2 [97]).length c29) (ofP bn.2 [97]).length ((ofP bn.2 [97]).map kI)) (star (Row 3 1 (.slice a33 (ofP bn.2 [97]).length c33) (ofP bn.2 [97]).length ((ofP bn.2 [97]).map kI)) (star (Row 83 2 (.slice pa bn.2.length pc) bn.2.length (psV bn.2)) (star (IsB p bn) (star (pt q (.cells #[.slice la bn.1.length lc, .slice pa bn.2.length pc] 47 (0, 0))) (star (Row 52 2 (.slice la bn.1.length lc) bn.1.length (msV bn.1)) (star (AX) (emp)))))))) (by ac_rfl)
            have H37 := Lib.hid (same_of (sameI_any (ofP bn.2 [97]) (ofP bn.2 [97]) _ a29 (ofP bn.2 [97]).length c29 a33 (ofP bn.2 [97]).length c33 rfl rfl (by omega) k38.rowSl k38.right.rowSl) (decide_eq_true rfl))
            simp only [nthOp]
            go_wp2_with fail
            refine H37.out.mono ?_
            rintro e y37 hq37
            have k37 := (k38.makes hq37).right.right
            obtain ⟨rfl, -⟩ := hq37
            have k40 := k37.eq (B := star (AX) (star (pt q (.cells #[.slice la bn.1.length lc, .slice pa bn.2.length pc] 47 (0, 0))) (star (Row 83 2 (.slice pa bn.2.length pc) bn.2.length (psV bn.2)) (star (IsB p bn) (star (Row 52 2 (.slice la bn.1.length lc) bn.1.length (msV bn.1)) (emp)))))) (by ac_rfl)
            have c39 := (⟨(HX.out _ _ k40).2.1, k40.right.cell 1 rfl⟩ : CB xb q xk (.slice pa bn.2.length pc) _)
            clear H37
            go_wp2_with fail
            simp only [Reg.Next]
            first | refine ⟨fun _ => c39, ?_⟩ | refine ⟨c39, ?_⟩ | skip
            refine trG_plain (.bool false) rfl ?_ (by simp only [nthOp, Act.put, List.setIfInBounds_toArray, List.set_cons_succ, List.set_cons_zero]; rfl) ?_
            · intro w'; simp only [nthOp]; go_simp
            refine trG_plain (.bool false) rfl ?_ (by simp only [nthOp, Act.put, List.setIfInBounds_toArray, List.set_cons_succ, List.set_cons_zero]; rfl) ?_
            · intro w'; simp only [nthOp]; go_simp
            refine trG_done ?_
            have k41 := k37.eq (B := star (pt q (.cells #[.slice la bn.1.length lc, .slice pa bn.2.length pc] 47 (0, 0))) (star (Row 52 2 (.slice la bn.1.length lc) bn.1.length (msV bn.1)) (star (Row 83 2 (.slice pa bn.2.length pc) bn.2.length (psV bn.2)) (star (IsB p bn) (star (AX) (emp)))))) (by ac_rfl)
            have hz := St.toW (b := bn) k41
            go_wp2_with fail
            exact ⟨⟨i + 1, bn, hin, by go_num, HI2, HK2, (hz.eq (B := star AX (star (IsB p bn) (star (IsW q bn) emp))) (by ac_rfl)).right⟩, by simp [intOf]; omega⟩
          · obtain ⟨qm, v0, hqn, hqx, hqa, hqg⟩ := atM_mem HK2.out hm
            have hzq : z = (qm : Nat) := by rw [← HZ.out, hqa]
            have hp0 : v0 = pn := by rw [← HPN.out, hqg]; rfl
            subst hzq hp0
            have hge : decide ((0 : Int) ≤ (qm : Nat)) = true := decide_eq_true (by omega)
            have HPB : Hid (∀ (w' : World) (R : Asn), St W w' (star (IsB p bn) R) → Calls Tryz.prog 17 #[.pointer (some ⟨p, 0, none⟩), .int .i64 xk] w' fun e w'' => e = .returned (.int .i64 ((v0 : Nat) : Int)) ∧ w' = w'') := Lib.hid fun w' R h => by have := Published_any p bn h xk; rwa [HPN.out] at this
            obtain ⟨lb, lo, rfl, hel⟩ := elM h7.right.rowSl hqx
            have e1 := (hel _ _ (St.start w4)).2
            have c2 := h7.cell 0 (v := .slice (some ⟨lb, lo, none⟩) bn.1.length lc) rfl
            clear hm hqx hqa hqg hel
            go_upto_region 29 with fail
            have j0 := (h7.drew).eq (B := star (pt q (.cells #[.slice (some ⟨lb, lo, none⟩) bn.1.length lc, .slice pa bn.2.length pc] 47 (0, 0))) (star (Row 52 2 (.slice (some ⟨lb, lo, none⟩) bn.1.length lc) bn.1.length (msV bn.1)) (star (Row 83 2 (.slice pa bn.2.length pc) bn.2.length (psV bn.2)) (star (IsB p bn) (star (AX) (emp)))))) (by ac_rfl)
            refine wp_region_heldG (CB xb q xk (.slice pa bn.2.length pc)) [] tr29 (by kernel_rfl) (by kernel_rfl) ⟨(HX.out _ _ (j0.eq (B := star (AX) (star (pt q (.cells #[.slice (some ⟨lb, lo, none⟩) bn.1.length lc, .slice pa bn.2.length pc] 47 (0, 0))) (star (Row 52 2 (.slice (some ⟨lb, lo, none⟩) bn.1.length lc) bn.1.length (msV bn.1)) (star (Row 83 2 (.slice pa bn.2.length pc) bn.2.length (psV bn.2)) (star (IsB p bn) (emp)))))) (by ac_rfl))).2.1, j0.cell 1 rfl⟩ ?_
            clear h7 e1 c2
            generalize w4.drew = z0 at *
            unfold tr29
            refine trG_plain (.pointer (some ⟨p, 0, none⟩)) rfl ?_ (by simp only [nthOp, Act.put, List.setIfInBounds_toArray, List.set_cons_succ, List.set_cons_zero]; rfl) ?_
            · exact fun _ => rfl
            refine trG_plain (.pointer (some ⟨xb, 1, none⟩)) rfl ?_ (by simp only [nthOp, Act.put, List.setIfInBounds_toArray, List.set_cons_succ, List.set_cons_zero]; rfl) ?_
            · intro w'; simp only [nthOp]; go_simp
            refine trG_held (.int .i64 xk) rfl ?_ (by simp only [nthOp, Act.put, List.setIfInBounds_toArray, List.set_cons_succ, List.set_cons_zero]; rfl) ?_
            · (rintro w' ⟨hc1, -⟩; simp only [nthOp]; go_simp)
            refine trG_plain (.int .i64 (v0 : Nat)) rfl ?_ (by simp only [nthOp, Act.put, List.setIfInBounds_toArray, List.set_cons_succ, List.set_cons_zero]; rfl) ?_
            · exact fun _ => rfl
            refine trG_one ?_
            have k2 := j0.eq (B := star (IsB p bn) (star (pt q (.cells #[.slice (some ⟨lb, lo, none⟩) bn.1.length lc, .slice pa bn.2.length pc] 47 (0, 0))) (star (Row 52 2 (.slice (some ⟨lb, lo, none⟩) bn.1.length lc) bn.1.length (msV bn.1)) (star (Row 83 2 (.slice pa bn.2.length pc) bn.2.length (psV bn.2)) (star (AX) (emp)))))) (by ac_rfl)
            have H1 := Lib.hid (HPB.out _ _ k2)
            simp only [nthOp]
            go_wp2_with fail
            refine H1.out.mono ?_
            rintro e y1 ⟨rfl, rfl⟩
            have k1 := k2
            have k4 := k1.eq (B := star (AX) (star (pt q (.cells #[.slice (some ⟨lb, lo, none⟩) bn.1.length lc, .slice pa bn.2.length pc] 47 (0, 0))) (star (IsB p bn) (star (Row 52 2 (.slice (some ⟨lb, lo, none⟩) bn.1.length lc) bn.1.length (msV bn.1)) (star (Row 83 2 (.slice pa bn.2.length pc) bn.2.length (psV bn.2)) (emp)))))) (by ac_rfl)
            have c3 := (⟨(HX.out _ _ k4).2.1, k4.right.cell 1 rfl⟩ : CB xb q xk (.slice pa bn.2.length pc) _)
            clear H1
            go_wp2_with fail
            simp only [Reg.Next]
            first | refine ⟨fun _ => c3, ?_⟩ | refine ⟨c3, ?_⟩ | skip
            refine trG_plain (.bool false) rfl ?_ (by simp only [nthOp, Act.put, List.setIfInBounds_toArray, List.set_cons_succ, List.set_cons_zero]; rfl) ?_
            · intro w'; simp only [nthOp]; go_simp
            refine trG_plain (.bool false) rfl ?_ (by simp only [nthOp, Act.put, List.setIfInBounds_toArray, List.set_cons_succ, List.set_cons_zero]; rfl) ?_
            · exact fun _ => rfl
            refine trG_plain (.pointer (some ⟨p, 0, none⟩)) rfl ?_ (by simp only [nthOp, Act.put, List.setIfInBounds_toArray, List.set_cons_succ, List.set_cons_zero]; rfl) ?_
            · exact fun _ => rfl
            refine trG_plain (.pointer (some ⟨q, 0, none⟩)) rfl ?_ (by simp only [nthOp, Act.put, List.setIfInBounds_toArray, List.set_cons_succ, List.set_cons_zero]; rfl) ?_
            · exact fun _ => rfl
            refine trG_one ?_
            have k6 := k1.eq (B := star (IsB p bn) (star (pt q (.cells #[.slice (some ⟨lb, lo, none⟩) bn.1.length lc, .slice pa bn.2.length pc] 47 (0, 0))) (star (Row 52 2 (.slice (some ⟨lb, lo, none⟩) bn.1.length lc) bn.1.length (msV bn.1)) (star (Row 83 2 (.slice pa bn.2.length pc) bn.2.length (psV bn.2)) (star (AX) (emp)))))) (by ac_rfl)
            have H5 := Lib.hid (Members_any p bn k6 (by omega))
            simp only [nthOp]
            go_wp2_with fail
            refine H5.out.mono ?_
            rintro e y5 ⟨a5, c5, rfl, k5⟩
            have k8 := k5.eq (B := star (AX) (star (pt q (.cells #[.slice (some ⟨lb, lo, none⟩) bn.1.length lc, .slice pa bn.2.length pc] 47 (0, 0))) (star (Row 3 1 (.slice a5 bn.1.length c5) bn.1.length ((sortI (bn.1.map (·.1))).map kI)) (star (IsB p bn) (star (Row 52 2 (.slice (some ⟨lb, lo, none⟩) bn.1.length lc) bn.1.length (msV bn.1)) (star (Row 83 2 (.slice pa bn.2.length pc) bn.2.length (psV bn.2)) (emp))))))) (by ac_rfl)
            have c7 := (⟨(HX.out _ _ k8).2.1, k8.right.cell 1 rfl⟩ : CB xb q xk (.slice pa bn.2.length pc) _)
            clear H5
            go_wp2_with fail
            simp only [Reg.Next]
            first | refine ⟨fun _ => c7, ?_⟩ | refine ⟨c7, ?_⟩ | skip
            refine trG_one ?_
            have k10 := k5.eq (B := star (pt q (.cells #[.slice (some ⟨lb, lo, none⟩) bn.1.length lc, .slice pa bn.2.length pc] 47 (0, 0))) (star (Row 52 2 (.slice (some ⟨lb, lo, none⟩) bn.1.length lc) bn.1.length (msV bn.1)) (star (Row 3 1 (.slice a5 bn.1.length c5) bn.1.length ((sortI (bn.1.map (·.1))).map kI)) (star (IsB p bn) (star (Row 83 2 (.slice pa bn.2.length pc) bn.2.length (psV bn.2)) (star (AX) (emp))))))) (by ac_rfl)
            have H9 := Lib.hid (rMembers_any q bn.1 bn.1.length rfl _ lc _ k10 (by omega))
            simp only [nthOp]
            go_wp2_with fail
            refine H9.out.mono ?_
            rintro e y9 ⟨a9, c9, rfl, k9⟩
            have k12 := k9.eq (B := star (AX) (star (pt q (.cells #[.slice (some ⟨lb, lo, none⟩) bn.1.length lc, .slice pa bn.2.length pc] 47 (0, 0))) (star (Row 3 1 (.slice a9 bn.1.length c9) bn.1.length ((sortI (bn.1.map (·.1))).map kI)) (star (Row 52 2 (.slice (some ⟨lb, lo, none⟩) bn.1.length lc) bn.1.length (msV bn.1)) (star (Row 3 1 (.slice a5 bn.1.length c5) bn.1.length ((sortI (bn.1.map (·.1))).map kI)) (star (IsB p bn) (star (Row 83 2 (.slice pa bn.2.length pc) bn.2.length (psV bn.2)) (emp)))))))) (by ac_rfl)
            have c11 := (⟨(HX.out _ _ k12).2.1, k12.right.cell 1 rfl⟩ : CB xb q xk (.slice pa bn.2.length pc) _)
            clear H9
            go_wp2_with fail
            simp only [Reg.Next]
            first | refine ⟨fun _ => c11, ?_⟩ | refine ⟨c11, ?_⟩ | skip
            refine trG_one ?_
            have k14 := k9.eq (B := star (Row 3 1 (.slice a5 bn.1.length c5) bn.1.length ((sortI (bn.1.map (·.1))).map kI)) (star (Row 3 1 (.slice a9 bn.1.length c9) bn.1.length ((sortI (bn.1.map (·.1))).map kI)) (star (pt q (.cells #[.slice (some ⟨lb, lo, none⟩) bn.1.length lc, .slice pa bn.2.length pc] 47 (0, 0))) (star (Row 52 2 (.slice (some ⟨lb, lo, none⟩) bn.1.length lc) bn.1.length (msV bn.1)) (star (IsB p bn) (star (Row 83 2 (.slice pa bn.2.length pc) bn.2.length (psV bn.2)) (star (AX) (emp)))))))) (by ac_rfl)
            have H13 := Lib.hid (same_of (sameI_any (sortI (bn.1.map (·.1))) (sortI (bn.1.map (·.1))) _ a5 bn.1.length c5 a9 bn.1.length c9 HSN.out HSN.out (by omega) k14.rowSl k14.right.rowSl) (decide_eq_true rfl))
            simp only [nthOp]
            go_wp2_with fail
            refine H13.out.mono ?_
            rintro e y13 hq13
            have k13 := (k14.makes hq13).right.right
            obtain ⟨rfl, -⟩ := hq13
            have k16 := k13.eq (B := star (AX) (star (pt q (.cells #[.slice (some ⟨lb, lo, none⟩) bn.1.length lc, .slice pa bn.2.length pc] 47 (0, 0))) (star (Row 52 2 (.slice (some ⟨lb, lo, none⟩) bn.1.length lc) bn.1.length (msV bn.1)) (star (IsB p bn) (star (Row 83 2 (.slice pa bn.2.length pc) bn.2.length (psV bn.2)) (emp)))))) (by ac_rfl)
            have c15 := (⟨(HX.out _ _ k16).2.1, k16.right.cell 1 rfl⟩ : CB xb q xk (.slice pa bn.2.length pc) _)
            clear H13
            go_wp2_with fail
            simp only [Reg.Next]
            first | refine ⟨fun _ => c15, ?_⟩ | refine ⟨c15, ?_⟩ | skip
            refine trG_plain (.bool false) rfl ?_ (by simp only [nthOp, Act.put, List.setIfInBounds_toArray, List.set_cons_succ, List.set_cons_zero]; rfl) ?_
            · intro w'; simp only [nthOp]; go_simp
            refine trG_plain (.bool false) rfl ?_ (by simp only [nthOp, Act.put, List.setIfInBounds_toArray, List.set_cons_succ, List.set_cons_zero]; rfl) ?_
            · intro w'; simp only [nthOp]; go_simp
            refine trG_plain (.bool false) rfl ?_ (by simp only [nthOp, Act.put, List.setIfInBounds_toArray, List.set_cons_succ, List.set_cons_zero]; rfl) ?_
            · exact fun _ => rfl
            refine trG_plain (.pointer (some ⟨p, 0, none⟩)) rfl ?_ (by simp only [nthOp, Act.put, List.setIfInBounds_toArray, List.set_cons_succ, List.set_cons_zero]; rfl) ?_
            · exact fun _ => rfl
            refine trG_plain (.pointer (some ⟨xb, 1, none⟩)) rfl ?_ (by simp only [nthOp, Act.put, List.setIfInBounds_toArray, List.set_cons_succ, List.set_cons_zero]; rfl) ?_
            · intro w'; simp only [nthOp]; go_simp
            refine trG_held (.int .i64 xk) rfl ?_ (by simp only [nthOp, Act.put, List.setIfInBounds_toArray, List.set_cons_succ, List.set_cons_zero]; rfl) ?_
            · (rintro w' ⟨hc1, -⟩; simp only [nthOp]; go_simp)
            refine trG_plain (.pointer (some ⟨q, 0, none⟩)) rfl ?_ (by simp only [nthOp, Act.put, List.setIfInBounds_toArray, List.set_cons_succ, List.set_cons_zero]; rfl) ?_
            · exact fun _ => rfl
            refine trG_plain (.pointer (some ⟨q, 0, none⟩)) rfl ?_ (by simp only [nthOp, Act.put, List.setIfInBounds_toArray, List.set_cons_succ, List.set_cons_zero]; rfl) ?_
            · intro w'; simp only [nthOp]; go_simp
            refine trG_plain (.pointer (some ⟨q, 1, none⟩)) rfl ?_ (by simp only [nthOp, Act.put, List.setIfInBounds_toArray, List.set_cons_succ, List.set_cons_zero]; rfl) ?_
            · intro w'; simp only [nthOp]; go_simp
            refine trG_held (.slice pa bn.2.length pc) rfl ?_ (by simp only [nthOp, Act.put, List.setIfInBounds_toArray, List.set_cons_succ, List.set_cons_zero]; rfl) ?_
            · (rintro w' ⟨-, hc1⟩; simp only [nthOp]; go_simp)
            refine trG_plain (.pointer (some ⟨xb, 1, none⟩)) rfl ?_ (by simp only [nthOp, Act.put, List.setIfInBounds_toArray, List.set_cons_succ, List.set_cons_zero]; rfl) ?_
            · intro w'; simp only [nthOp]; go_simp
            refine trG_held (.int .i64 xk) rfl ?_ (by simp only [nthOp, Act.put, List.setIfInBounds_toArray, List.set_cons_succ, List.set_cons_zero]; rfl) ?_
            · (rintro w' ⟨hc1, -⟩; simp only [nthOp]; go_simp)
            refine trG_one ?_
            have k18 := k13.eq (B := star (IsB p bn) (star (pt q (.cells #[.slice (some ⟨lb, lo, none⟩) bn.1.length lc, .slice pa bn.2.length pc] 47 (0, 0))) (star (Row 52 2 (.slice (some ⟨lb, lo, none⟩) bn.1.length lc) bn.1.length (msV bn.1)) (star (Row 83 2 (.slice pa bn.2.length pc) bn.2.length (psV bn.2)) (star (AX) (emp)))))) (by ac_rfl)
            have H17 := Lib.hid (Hears_any p bn k18 (by omega) xk)
            simp only [nthOp]
            go_wp2_with fail
            refine H17.out.mono ?_
            rintro e y17 ⟨a17, _, c17, rfl, rfl, k17⟩
            have k20 := k17.eq (B := star (AX) (star (pt q (.cells #[.slice (some ⟨lb, lo, none⟩) bn.1.length lc, .slice pa bn.2.length pc] 47 (0, 0))) (star (Row 9 1 (.slice a17 (byP bn.2 xk).length c17) (byP bn.2 xk).length ((byP bn.2 xk).map kS)) (star (IsB p bn) (star (Row 52 2 (.slice (some ⟨lb, lo, none⟩) bn.1.length lc) bn.1.length (msV bn.1)) (star (Row 83 2 (.slice pa bn.2.length pc) bn.2.length (psV bn.2)) (emp))))))) (by ac_rfl)
            have c19 := (⟨(HX.out _ _ k20).2.1, k20.right.cell 1 rfl⟩ : CB xb q xk (.slice pa bn.2.length pc) _)
            clear H17
            go_wp2_with fail
            simp only [Reg.Next]
            first | refine ⟨fun _ => c19, ?_⟩ | refine ⟨c19, ?_⟩ | skip
            refine trG_one ?_
            have k22 := k17.eq (B := star (Row 83 2 (.slice pa bn.2.length pc) bn.2.length (psV bn.2)) (star (Row 9 1 (.slice a17 (byP bn.2 xk).length c17) (byP bn.2 xk).length ((byP bn.2 xk).map kS)) (star (IsB p bn) (star (pt q (.cells #[.slice (some ⟨lb, lo, none⟩) bn.1.length lc, .slice pa bn.2.length pc] 47 (0, 0))) (star (Row 52 2 (.slice (some ⟨lb, lo, none⟩) bn.1.length lc) bn.1.length (msV bn.1)) (star (AX) (emp))))))) (by ac_rfl)
            have H21 := Lib.hid (rBy_any pa bn.2.length pc bn.2 rfl (by omega) xk k22 k22.rowSl)
            simp only [nthOp]
            go_wp2_with fail
            refine H21.out.mono ?_
            rintro e y21 ⟨a21, c21, rfl, k21⟩
            have k24 := k21.eq (B := star (AX) (star (pt q (.cells #[.slice (some ⟨lb, lo, none⟩) bn.1.length lc, .slice pa bn.2.length pc] 47 (0, 0))) (star (Row 9 1 (.slice a21 (byP bn.2 xk).length c21) (byP bn.2 xk).length ((byP bn.2 xk).map kS)) (star (Row 83 2 (.slice pa bn.2.length pc) bn.2.length (psV bn.2)) (star (Row 9 1 (.slice a17 (byP bn.2 xk).length c17) (byP bn.2 xk).length ((byP bn.2 xk).map kS)) (star (IsB p bn) (star (Row 52 2 (.slice (some ⟨lb, lo, none⟩) bn.1.length lc) bn.1.length (msV bn.1)) (emp)))))))) (by ac_rfl)
            have c23 := (⟨(HX.out _ _ k24).2.1, k24.right.cell 1 rfl⟩ : CB xb q xk (.slice pa bn.2.length pc) _)
            clear H21
            go_wp2_with fail
            simp only [Reg.Next]
            first | refine ⟨fun _ => c23, ?_⟩ | refine ⟨c23, ?_⟩ | skip
            refine trG_one ?_
            have k26 := k21.eq (B := star (Row 9 1 (.slice a17 (byP bn.2 xk).length c17) (byP bn.2 xk).length ((byP bn.2 xk).map kS)) (star (Row 9 1 (.slice a21 (byP bn.2 xk).length c21) (byP bn.2 xk).length ((byP bn.2 xk).map kS)) (star (Row 83 2 (.slice pa bn.2.length pc) bn.2.length (psV bn.2)) (star (IsB p bn) (star (pt q (.cells #[.slice (some ⟨lb, lo, none⟩) bn.1.length lc, .slice pa bn.2.length pc] 47 (0, 0))) (star (Row 52 2 (.slice (some ⟨lb, lo, none⟩) bn.1.length lc) bn.1.length (msV bn.1)) (star (AX) (emp)))))))) (by ac_rfl)
            have H25 := Lib.hid (same_of (sameS_any (byP bn.2 xk) (byP bn.2 xk) _ a17 (byP bn.2 xk).length c17 a21 (byP bn.2 xk).length c21 rfl rfl (by omega) k26.rowSl k26.right.rowSl) (decide_eq_true rfl))
            simp only [nthOp]
            go_wp2_with fail
            refine H25.out.mono ?_
            rintro e y25 hq25
            have k25 := (k26.makes hq25).right.right
            obtain ⟨rfl, -⟩ := hq25
            have k28 := k25.eq (B := star (AX) (star (pt q (.cells #[.slice (some ⟨lb, lo, none⟩) bn.1.length lc, .slice pa bn.2.length pc] 47 (0, 0))) (star (Row 83 2 (.slice pa bn.2.length pc) bn.2.length (psV bn.2)) (star (IsB p bn) (star (Row 52 2 (.slice (some ⟨lb, lo, none⟩) bn.1.length lc) bn.1.length (msV bn.1)) (emp)))))) (by ac_rfl)
            have c27 := (⟨(HX.out _ _ k28).2.1, k28.right.cell 1 rfl⟩ : CB xb q xk (.slice pa bn.2.length pc) _)
            clear H25
            go_wp2_with fail
            simp only [Reg.Next]
            first | refine ⟨fun _ => c27, ?_⟩ | refine ⟨c27, ?_⟩ | skip
            refine trG_plain (.bool false) rfl ?_ (by simp only [nthOp, Act.put, List.setIfInBounds_toArray, List.set_cons_succ, List.set_cons_zero]; rfl) ?_
            · intro w'; simp only [nthOp]; go_simp
            refine trG_plain (.bool false) rfl ?_ (by simp only [nthOp, Act.put, List.setIfInBounds_toArray, List.set_cons_succ, List.set_cons_zero]; rfl) ?_
            · intro w'; simp only [nthOp]; go_simp
            refine trG_plain (.bool false) rfl ?_ (by simp only [nthOp, Act.put, List.setIfInBounds_toArray, List.set_cons_succ, List.set_cons_zero]; rfl) ?_
            · exact fun _ => rfl
            refine trG_plain (.pointer (some ⟨p, 0, none⟩)) rfl ?_ (by simp only [nthOp, Act.put, List.setIfInBounds_toArray, List.set_cons_succ, List.set_cons_zero]; rfl) ?_
            · exact fun _ => rfl
            refine trG_plain (.pointer (some ⟨q, 0, none⟩)) rfl ?_ (by simp only [nthOp, Act.put, List.setIfInBounds_toArray, List.set_cons_succ, List.set_cons_zero]; rfl) ?_
            · exact fun _ => rfl
            refine trG_plain (.pointer (some ⟨q, 0, none⟩)) rfl ?_ (by simp only [nthOp, Act.put, List.setIfInBounds_toArray, List.set_cons_succ, List.set_cons_zero]; rfl) ?_
            · intro w'; simp only [nthOp]; go_simp
            refine trG_plain (.pointer (some ⟨q, 1, none⟩)) rfl ?_ (by simp only [nthOp, Act.put, List.setIfInBounds_toArray, List.set_cons_succ, List.set_cons_zero]; rfl) ?_
            · intro w'; simp only [nthOp]; go_simp
            refine trG_held (.slice pa bn.2.length pc) rfl ?_ (by simp only [nthOp, Act.put, List.setIfInBounds_toArray, List.set_cons_succ, List.set_cons_zero]; rfl) ?_
            · (rintro w' ⟨-, hc1⟩; simp only [nthOp]; go_simp)
            refine trG_one ?_
            have k30 := k25.eq (B := star (IsB p bn) (star (Row 83 2 (.slice pa bn.2.length pc) bn.2.length (psV bn.2)) (star (pt q (.cells #[.slice (some ⟨lb, lo, none⟩) bn.1.length lc, .slice pa bn.2.length pc] 47 (0, 0))) (star (Row 52 2 (.slice (some ⟨lb, lo, none⟩) bn.1.length lc) bn.1.length (msV bn.1)) (star (AX) (emp)))))) (by ac_rfl)
            have H29 := Lib.hid (BkO.Of_any p bn k30 (by omega) [97])
            simp only [nthOp]
            go_wp2_with fail
            refine H29.out.mono ?_
            rintro e y29 ⟨a29, _, c29, rfl, rfl, k29⟩
            have k32 := k29.eq (B := star (AX) (star (pt q (.cells #[.slice (some ⟨lb, lo, none⟩) bn.1.length lc, .slice pa bn.2.length pc] 47 (0, 0))) (star (Row 3 1 (.slice a29 (ofP bn.2 [97]).length c29) (ofP bn.2 [97]).length ((ofP bn.2 [97]).map kI)) (star (IsB p bn) (star (Row 83 2 (.slice pa bn.2.length pc) bn.2.length (psV bn.2)) (star (Row 52 2 (.slice (some ⟨lb, lo, none⟩) bn.1.length lc) bn.1.length (msV bn.1)) (emp))))))) (by ac_rfl)
            have c31 := (⟨(HX.out _ _ k32).2.1, k32.right.cell 1 rfl⟩ : CB xb q xk (.slice pa bn.2.length pc) _)
            clear H29
            go_wp2_with fail
            simp only [Reg.Next]
            first | refine ⟨fun _ => c31, ?_⟩ | refine ⟨c31, ?_⟩ | skip
            refine trG_one ?_
            have k34 := k29.eq (B := star (Row 83 2 (.slice pa bn.2.length pc) bn.2.length (psV bn.2)) (star (Row 3 1 (.slice a29 (ofP bn.2 [97]).length c29) (ofP bn.2 [97]).length ((ofP bn.2 [97]).map kI)) (star (IsB p bn) (star (pt q (.cells #[.slice (some ⟨lb, lo, none⟩) bn.1.length lc, .slice pa bn.2.length pc] 47 (0, 0))) (star (Row 52 2 (.slice (some ⟨lb, lo, none⟩) bn.1.length lc) bn.1.length (msV bn.1)) (star (AX) (emp))))))) (by ac_rfl)
            have H33 := Lib.hid (rOf_any pa bn.2.length pc bn.2 rfl (by omega) [97] k34 k34.rowSl)
            simp only [nthOp]
            go_wp2_with fail
            refine H33.out.mono ?_
            rintro e y33 ⟨a33, c33, rfl, k33⟩
            have k36 := k33.eq (B := star (AX) (star (pt q (.cells #[.slice (some ⟨lb, lo, none⟩) bn.1.length lc, .slice pa bn.2.length pc] 47 (0, 0))) (star (Row 3 1 (.slice a33 (ofP bn.2 [97]).length c33) (ofP bn.2 [97]).length ((ofP bn.2 [97]).map kI)) (star (Row 83 2 (.slice pa bn.2.length pc) bn.2.length (psV bn.2)) (star (Row 3 1 (.slice a29 (ofP bn.2 [97]).length c29) (ofP bn.2 [97]).length ((ofP bn.2 [97]).map kI)) (star (IsB p bn) (star (Row 52 2 (.slice (some ⟨lb, lo, none⟩) bn.1.length lc) bn.1.length (msV bn.1)) (emp)))))))) (by ac_rfl)
            have c35 := (⟨(HX.out _ _ k36).2.1, k36.right.cell 1 rfl⟩ : CB xb q xk (.slice pa bn.2.length pc) _)
            clear H33
            go_wp2_with fail
            simp only [Reg.Next]
            first | refine ⟨fun _ => c35, ?_⟩ | refine ⟨c35, ?_⟩ | skip
            refine trG_one ?_
            have k38 := k33.eq (B := star (Row 3 1 (.slice a29 (ofP bn.2 [97]).length c29) (ofP bn.2 [97]).length ((ofP bn.2 [97]).map kI)) (star (Row 3 1 (.slice a33 (ofP bn.2 [97]).length c33) (ofP bn.2 [97]).length ((ofP bn.2 [97]).map kI)) (star (Row 83 2 (.slice pa bn.2.length pc) bn.2.length (psV bn.2)) (star (IsB p bn) (star (pt q (.cells #[.slice (some ⟨lb, lo, none⟩) bn.1.length lc, .slice pa bn.2.length pc] 47 (0, 0))) (star (Row 52 2 (.slice (some ⟨lb, lo, none⟩) bn.1.length lc) bn.1.length (msV bn.1)) (star (AX) (emp)))))))) (by ac_rfl)
            have H37 := Lib.hid (same_of (sameI_any (ofP bn.2 [97]) (ofP bn.2 [97]) _ a29 (ofP bn.2 [97]).length c29 a33 (ofP bn.2 [97]).length c33 rfl rfl (by omega) k38.rowSl k38.right.rowSl) (decide_eq_true rfl))
            simp only [nthOp]
            go_wp2_with fail
            refine H37.out.mono ?_
            rintro e y37 hq37
            have k37 := (k38.makes hq37).right.right
            obtain ⟨rfl, -⟩ := hq37
            have k40 := k37.eq (B := star (AX) (star (pt q (.cells #[.slice (some ⟨lb, lo, none⟩) bn.1.length lc, .slice pa bn.2.length pc] 47 (0, 0))) (star (Row 83 2 (.slice pa bn.2.length pc) bn.2.length (psV bn.2)) (star (IsB p bn) (star (Row 52 2 (.slice (some ⟨lb, lo, none⟩) bn.1.length lc) bn.1.length (msV bn.1)) (emp)))))) (by ac_rfl)
            have c39 := (⟨(HX.out _ _ k40).2.1, k40.right.cell 1 rfl⟩ : CB xb q xk (.slice pa bn.2.length pc) _)
            clear H37
            go_wp2_with fail
            simp only [Reg.Next]
            first | refine ⟨fun _ => c39, ?_⟩ | refine ⟨c39, ?_⟩ | skip
            refine trG_plain (.bool false) rfl ?_ (by simp only [nthOp, Act.put, List.setIfInBounds_toArray, List.set_cons_succ, List.set_cons_zero]; rfl) ?_
            · intro w'; simp only [nthOp]; go_simp
            refine trG_plain (.bool false) rfl ?_ (by simp only [nthOp, Act.put, List.setIfInBounds_toArray, List.set_cons_succ, List.set_cons_zero]; rfl) ?_
            · intro w'; simp only [nthOp]; go_simp
            refine trG_done ?_
            have k41 := k37.eq (B := star (pt q (.cells #[.slice (some ⟨lb, lo, none⟩) bn.1.length lc, .slice pa bn.2.length pc] 47 (0, 0))) (star (Row 52 2 (.slice (some ⟨lb, lo, none⟩) bn.1.length lc) bn.1.length (msV bn.1)) (star (Row 83 2 (.slice pa bn.2.length pc) bn.2.length (psV bn.2)) (star (IsB p bn) (star (AX) (emp)))))) (by ac_rfl)
            have hz := St.toW (b := bn) k41
            go_wp2_with fail
            exact ⟨⟨i + 1, bn, hin, by go_num, HI2, HK2, (hz.eq (B := star AX (star (IsB p bn) (star (IsW q bn) emp))) (by ac_rfl)).right⟩, by simp [intOf]; omega⟩
      · obtain rfl : i = len0 := by omega
        have HW := Lib.hid (wakes_any HG.out hS)
        go_wp2_with fail
        refine HW.out.mono ?_
        rintro e w4 ⟨rfl, h4⟩
        go_wp2
        go_ret
        exact ⟨rfl, h4.right.right⟩
end Go.Proofs.YtdobgebdlbckoaaGreatDoor.BkPl
