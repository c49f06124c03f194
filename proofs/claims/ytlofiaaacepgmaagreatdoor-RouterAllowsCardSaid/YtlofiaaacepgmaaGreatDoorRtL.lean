import Derived.Laws.Cover1
import Derived.Test.YtlofiaaacepgmaaGreatDoorRtO
import Derived.Test.YtlofiaaacepgmaaGreatDoorRtLp
namespace Go.Proofs.YtlofiaaacepgmaaGreatDoor.RtL
open Go Go.RowKit Go.Proofs Go.Proofs.YtlofiaaacepgmaaGreatDoor.Sep Go.Proofs.YtlofiaaacepgmaaGreatDoor.Reg Go.Proofs.YtlofiaaacepgmaaGreatDoor.Frame Go.Proofs.YtlofiaaacepgmaaGreatDoor.Strs Go.Proofs.YtlofiaaacepgmaaGreatDoor.Mp Go.Proofs.YtlofiaaacepgmaaGreatDoor.TrP Go.Proofs.YtlofiaaacepgmaaGreatDoor.TrQ Go.Proofs.YtlofiaaacepgmaaGreatDoor.RtP Go.Proofs.YtlofiaaacepgmaaGreatDoor.RtQ Go.Proofs.YtlofiaaacepgmaaGreatDoor.RtA Go.Proofs.YtlofiaaacepgmaaGreatDoor.RtC Go.Proofs.YtlofiaaacepgmaaGreatDoor.RtB Go.Proofs.YtlofiaaacepgmaaGreatDoor.RtV Go.Proofs.YtlofiaaacepgmaaGreatDoor.RtW Go.Proofs.YtlofiaaacepgmaaGreatDoor.RtX Go.Proofs.YtlofiaaacepgmaaGreatDoor.RtG Go.Proofs.YtlofiaaacepgmaaGreatDoor.RtO Go.Proofs.YtlofiaaacepgmaaGreatDoor.RtLp

theorem ne_byte {x c : UInt8} (h : x ≠ c) : ((x.toNat : Int) != (c.toNat : Int)) = true := by
  rw [bne_iff_ne]
  intro e
  exact h (UInt8.toNat_inj.1 (by omega))
theorem get_at (s : List UInt8) (i : Nat) (h : i < (ByteArray.mk s.toArray).size) : s[i]? = some ((ByteArray.mk s.toArray)[i]'h) := by
  have h' : i < s.length := by simpa [ByteArray.size] using h
  rw [List.getElem?_eq_getElem h']; rfl
theorem _root_.Go.Proofs.YtlofiaaacepgmaaGreatDoor.Sep.St.fin {W w : World} {R : Asn} (h : St W w R) : St W w emp := (h.eq (B := star R emp) (by simp only [star_emp])).right
set_option maxRecDepth 100000 in
set_option maxHeartbeats 64000000 in
theorem allows_any {W : World} (hm : TrS.MaxLen W) (a : Option Addr) (n c : Nat) (l : List Rt) (hln : l.length = n) (hsl : Sl W 4 (.slice a n c) n (l.flatMap RouteC.E)) (_ : ∀ x ∈ l, RouteC.Ok x) (x : ReqC.T) (_ : ReqC.Ok x) :
    Calls Tryz.prog 5 #[.slice a n c, .agg (ReqC.E x).toArray] W (Law W emp) := by
  have HM := Lib.hid hm
  have HN := Lib.hid hln
  have HSL : Hid (Sl W 4 (.slice a n c) n (rsV l)) := Lib.hid hsl
  have hcap : n ≤ c ∧ c ≤ 9223372036854775807 := by obtain ⟨_, _, _, hv, h1, h2, _⟩ := hsl; cases hv; exact ⟨h1, by simpa [maxLen] using h2⟩
  obtain ⟨xm, xp, xq, xv, fa, fn, fc, xb, xc⟩ := x
  have h1 := (St.start W).alloc (.cells #[kS xm, kS xp, kS xq, .int .i64 xv, .slice fa fn fc, kS xb, .bool xc] 24 (0, 0))
  have HGr := Lib.hid fun w hs => Great_any a n c l HN.out w hs ⟨xm, xp, xq, xv, fa, fn, fc, xb, xc⟩
  clear hm hln hsl
  show Calls Tryz.prog 5 #[.slice a n c, .agg #[kS xm, kS xp, kS xq, .int .i64 xv, .slice fa fn fc, kS xb, .bool xc]] W (Law W emp)
  obtain ⟨qb, hqb⟩ : ∃ z, W.heap.size = z := ⟨_, rfl⟩
  rw [hqb] at h1
  have c0 := h1.cell 0 (v := kS xm) rfl
  have c1 := h1.cell 1 (v := kS xp) rfl
  have c2 := h1.cell 2 (v := kS xq) rfl
  have c3 := h1.cell 3 (v := .int .i64 xv) rfl
  have c4 := h1.cell 4 (v := .slice fa fn fc) rfl
  have c5 := h1.cell 5 (v := kS xb) rfl
  have c6 := h1.cell 6 (v := .bool xc) rfl
  go_enter Tryz.func5, Tryz.ntmps5
  go_wp2_with fail
  clear hqb
  generalize W.alloc (.cells #[kS xm, kS xp, kS xq, .int .i64 xv, .slice fa fn fc, kS xb, .bool xc] 24 (0, 0)) = w1 at *
  refine (HGr.out _ (sl_past HSL.out h1)).mono ?_
  rintro e w2 ⟨gb, hq, hgb⟩
  have h2 := h1.makes hq
  obtain ⟨rfl, -⟩ := hq
  clear HGr h1 c0 c1 c2 c3 c4 c5 c6
  cases gb with
  | true =>
    have HW2 := Lib.hid (wakes_any HM.out (RtN.path_max HM.out) h2)
    go_wp2_with fail
    refine HW2.out.mono ?_
    rintro e w3 ⟨rfl, h3⟩
    go_wp2
    go_ret
    exact ⟨rfl, h3.right⟩
  | false =>
    obtain ⟨hl40, hxp, -, -, hls⟩ := hgb rfl
    dsimp only at hxp
    have HXP := Lib.hid hxp
    have HLB : Hid (∀ r ∈ l, r.m.length ≤ 1000 ∧ r.p.length ≤ 1000) := Lib.hid fun r hr => by have := hls r hr; omega
    have HLS : Hid (∀ r ∈ l, r.m.length ≤ 1000000 ∧ r.p.length ≤ 1000000) := Lib.hid fun r hr => by have := hls r hr; omega
    have hn40 : n ≤ 40 := by have := HN.out; omega
    clear hgb hl40 hls hxp
    have HNw := Lib.hid (New_any a n c l HN.out (by omega) h2 (sl_past HSL.out h2) HM.out HLS.out)
    clear h2
    go_wp2_with fail
    refine HNw.out.mono ?_
    rintro e w3 (⟨hne, rfl, h3⟩ | ⟨hnn, rp, rfl, h3⟩)
    · obtain ⟨nv, hnv⟩ : ∃ nv, newN l = nv := ⟨_, rfl⟩
      rw [hnv] at hne ⊢
      have hb : (nv != 0) = true := by simpa using hne
      have HW2 := Lib.hid (wakes_any HM.out (RtN.path_max HM.out) h3)
      clear hnv hne HNw
      go_wp2_with fail
      refine HW2.out.mono ?_
      rintro e w4 ⟨rfl, h4⟩
      go_wp2
      go_ret
      exact ⟨rfl, h4.right⟩
    · have hn32 : n ≤ 32 := by have := newN_len hnn; have := HN.out; omega
      have HRI := Lib.hid (newN_ri hnn)
      obtain ⟨es, hes⟩ : ∃ es, (newR [] l).2 = es := ⟨_, rfl⟩
      rw [hes] at h3 HRI
      clear hnn hes HNw
      have h4 := h3.swap
      have c0 := h4.cell 0 (v := kS xm) rfl
      have f0 := h4.free 0
      have h5 : St W (w3.setCell ⟨qb, 0, none⟩ (.string ⟨#[78, 79, 45, 83, 85, 67, 72]⟩)) (star (pt qb (.cells #[.string ⟨#[78, 79, 45, 83, 85, 67, 72]⟩, kS xp, kS xq, .int .i64 xv, .slice fa fn fc, kS xb, .bool xc] 24 (0, 0))) (star (IsRt rp l es) (emp))) := (h4.setCell 0 (.string ⟨#[78, 79, 45, 83, 85, 67, 72]⟩)).eq (by ac_rfl)
      clear h3 h4
      go_upto_region 7 with fail
      clear c0 f0
      generalize w3.setCell ⟨qb, 0, none⟩ (.string ⟨#[78, 79, 45, 83, 85, 67, 72]⟩) = w4 at *
      go_wp2_with fail
      go_loopw [7] (fun iv wr => ∃ i : Nat, i ≤ n ∧ iv = .int .i64 i ∧ Hid (∀ r ∈ l.take i, r.m ≠ wNS) ∧ St W wr (star (pt qb (.cells #[.string ⟨#[78, 79, 45, 83, 85, 67, 72]⟩, kS xp, kS xq, .int .i64 xv, .slice fa fn fc, kS xb, .bool xc] 24 (0, 0))) (star (IsRt rp l es) (emp)))) (fun iv _ => n - (intOf iv).toNat)
      case atStart => exact ⟨0, Nat.zero_le _, rfl, Lib.hid (by simp), h5⟩
      case round =>
        obtain ⟨i, hi, rfl, HT, hS⟩ := hrel
        clear h5
        by_cases hin : i < n
        · obtain ⟨y, hy⟩ : ∃ y, l[i]? = some y := ⟨_, List.getElem?_eq_getElem (by rw [HN.out]; exact hin)⟩
          have HY := Lib.hid hy
          obtain ⟨ab, ao, rfl, hel⟩ := elR HSL.out hy
          obtain ⟨e0, e1, e2, e3⟩ := hel _ _ hS
          have c0 := hS.cell 0 (v := .string ⟨#[78, 79, 45, 83, 85, 67, 72]⟩) rfl
          obtain ⟨ym, yp, yk, yt⟩ := y
          dsimp only at e0 e1 e2 e3
          have hinI : (i : Int) < n := by omega
          clear hy hel e1 e2 e3
          cases hb : (ym == [78, 79, 45, 83, 85, 67, 72])
          · have HT2 : Hid (∀ r ∈ l.take (i + 1), r.m ≠ wNS) := Lib.hid (fun r hr => by
              rw [List.take_add_one, HY.out] at hr
              rcases List.mem_append.1 hr with h | h
              · exact HT.out r h
              · simp at h
                rw [h]
                exact beq_eq_false_iff_ne.1 hb)
            go_wp2_with fail
            go_big_quiet (fail)
            go_wp2_with fail
            exact ⟨⟨i + 1, hin, by go_num, HT2, hS.drewN nq⟩, by simp [intOf]; omega⟩
          · go_wp2_with fail
            go_big_quiet (fail)
            have HWk := Lib.hid (wakes_any HM.out (RtN.path_max HM.out) (hS.drewN nq))
            go_wp2_with fail
            refine HWk.out.mono ?_
            rintro e wx ⟨rfl, hx⟩
            go_wp2
            go_ret
            exact ⟨rfl, hx.fin⟩
        · obtain rfl : n = i := by omega
          have HNS : Hid (∀ r ∈ l, r.m ≠ wNS) := Lib.hid (by
            have := HT.out
            rwa [List.take_of_length_le (by rw [HN.out]; exact Nat.le_refl _)] at this)
          clear HT hi hin
          have HAC := Lib.hid (allows_cases HRI.out HNS.out xp xb)
          have hs := hS.eq (B := star (IsRt rp l es) (star (pt qb (.cells #[.string ⟨#[78, 79, 45, 83, 85, 67, 72]⟩, kS xp, kS xq, .int .i64 xv, .slice fa fn fc, kS xb, .bool xc] 24 (0, 0))) (emp))) (by ac_rfl)
          have c0 := hs.right.cell 0 (v := .string ⟨#[78, 79, 45, 83, 85, 67, 72]⟩) rfl
          have c1 := hs.right.cell 1 (v := kS xp) rfl
          have c2 := hs.right.cell 2 (v := kS xq) rfl
          have c3 := hs.right.cell 3 (v := .int .i64 xv) rfl
          have c4 := hs.right.cell 4 (v := .slice fa fn fc) rfl
          have c5 := hs.right.cell 5 (v := kS xb) rfl
          have c6 := hs.right.cell 6 (v := .bool xc) rfl
          have HSv := Lib.hid (Serve_any rp l es hs HRI.out (by rw [HN.out]; omega) HLB.out HM.out (RtN.path_max HM.out) wNS xp xq xv fa fn fc xb xc HXP.out)
          clear hS hs
          rcases HAC.out with ⟨cd, bd, hx, hcd⟩ | ⟨ms, ps, hx, hser⟩
          · clear HAC
            have HSw := Lib.hid (HSv.out.mono fun e w h => sv_zero hx h)
            have HCD := Lib.hid hcd
            clear HSv hx hcd
            go_wp2_with fail
            refine HSw.out.mono ?_
            rintro e ws ⟨fa0, fc0, rfl, hs2⟩
            have hs3 := hs2.alloc (.cells #[.int .i64 cd, .slice fa0 0 fc0, kS bd] 29 (0, 0))
            have k0 := hs3.cell 0 (v := .int .i64 cd) rfl
            have k1 := hs3.cell 1 (v := .slice fa0 0 fc0) rfl
            have HWk := Lib.hid (wakes_any HM.out (RtN.path_max HM.out) hs3)
            obtain ⟨yb0, hyb⟩ : ∃ z, ws.heap.size = z := ⟨_, rfl⟩
            rw [hyb] at k0 k1
            clear HSw hs2 hs3 c0 c1 c2 c3 c4 c5 c6
            rcases HCD.out with rfl | rfl
            · go_wp2_with fail
              refine HWk.out.mono ?_
              rintro e wx ⟨rfl, hx⟩
              go_wp2
              go_ret
              exact ⟨rfl, hx.fin⟩
            · go_wp2_with fail
              refine HWk.out.mono ?_
              rintro e wx ⟨rfl, hx⟩
              go_wp2
              go_ret
              exact ⟨rfl, hx.fin⟩
          · clear HAC
            obtain ⟨S, hall, hfc⟩ := fc_of hser (by rw [HN.out]; exact hn32) (fun r hr => (HLB.out r hr).1)
            rw [hall] at hx
            have HFC := Lib.hid hfc
            have HSw := Lib.hid (HSv.out.mono fun e w h => sv_one hx h)
            clear HSv hx hser hall hfc
            go_wp2_with fail
            refine HSw.out.mono ?_
            rintro e ws ⟨fa0, fc0, rfl, hs2⟩
            have hs3 := hs2.alloc (.cells #[.int .i64 405, .slice fa0 1 fc0, kS tNoM] 29 (0, 0))
            obtain ⟨ab0, ao0, rfl, hel⟩ := elF_all hs2.rowSl (i := 0) (x := (tAllow, joinC S)) rfl
            have hst := (St.start ws).alloc (.cells #[.int .i64 405, .slice (some ⟨ab0, ao0, none⟩) 1 fc0, kS tNoM] 29 (0, 0))
            have e0 : (ws.alloc (.cells #[.int .i64 405, .slice (some ⟨ab0, ao0, none⟩) 1 fc0, kS tNoM] 29 (0, 0))).cell? ⟨ab0, ao0, none⟩ = some (.string ⟨#[65, 108, 108, 111, 119]⟩) := (hel _ _ hst).1
            have e1 : (ws.alloc (.cells #[.int .i64 405, .slice (some ⟨ab0, ao0, none⟩) 1 fc0, kS tNoM] 29 (0, 0))).cell? ⟨ab0, ao0 + 1, none⟩ = some (kS (joinC S)) := by have := (hel _ _ hst).2; rwa [Nat.zero_mul, Nat.add_zero] at this
            have k0 := hs3.cell 0 (v := .int .i64 405) rfl
            have k1 := hs3.cell 1 (v := .slice (some ⟨ab0, ao0, none⟩) 1 fc0) rfl
            have hcur : St W (ws.alloc (.cells #[.int .i64 405, .slice (some ⟨ab0, ao0, none⟩) 1 fc0, kS tNoM] 29 (0, 0))) (star (pt qb (.cells #[.string ⟨#[78, 79, 45, 83, 85, 67, 72]⟩, kS xp, kS xq, .int .i64 xv, .slice fa fn fc, kS xb, .bool xc] 24 (0, 0))) (star (IsRt rp l es) (emp))) := hs3.right.right.eq (by ac_rfl)
            have hfl := flat_len HFC.out
            have hjl := congrArg List.length (joinC_flat HFC.out.ne)
            rw [List.length_append] at hjl
            have hjl2 : (joinC S).length + 2 = (flat S).length := hjl
            have hadd := run_str_add (P := Tryz.prog) (joinC S) [44, 32] (by simp only [List.length_cons, List.length_nil]; omega)
            rw [joinC_flat HFC.out.ne] at hadd
            obtain ⟨fs, hfs⟩ : ∃ fs, flat S = fs := ⟨_, rfl⟩
            rw [hfs] at hadd hfl
            have HFS := Lib.hid hfs
            obtain ⟨yb0, hyb⟩ : ∃ z, ws.heap.size = z := ⟨_, rfl⟩
            rw [hyb] at k0 k1
            clear hst hel hs2 hs3 hjl hjl2 hfs HSw c0 c1 c2 c3 c4 c5 c6
            go_upto_region 18 with fail
            clear hyb hadd e0 e1 k0 k1
            generalize ws.alloc (.cells #[.int .i64 405, .slice (some ⟨ab0, ao0, none⟩) 1 fc0, kS tNoM] 29 (0, 0)) = w5 at *
            go_wp2_with fail
            go_loopw [11, 12, 13, 14] (fun lv gv hv iv wr => ∃ j : Nat, j ≤ S.length ∧ lv = kS (lastO S j) ∧ gv = .bool (decide (wGET ∈ S.take j)) ∧ hv = .bool (decide (wHEAD ∈ S.take j)) ∧ iv = .int .i64 (((flat (S.take j)).length : Nat) : Int) ∧ ∃ cur, St W wr (star (pt qb (.cells #[kS cur, kS xp, kS xq, .int .i64 xv, .slice fa fn fc, kS xb, .bool xc] 24 (0, 0))) (star (IsRt rp l es) (emp)))) (fun _ _ _ iv _ => fs.length - (intOf iv).toNat)
            case atStart => exact ⟨0, Nat.zero_le _, rfl, by simp, by simp, rfl, wNS, hcur⟩
            case round =>
              obtain ⟨j, hj, rfl, rfl, rfl, rfl, cur, hS⟩ := hrel
              clear hcur
              by_cases hjn : j < S.length
              · obtain ⟨y, hy⟩ : ∃ y, S[j]? = some y := ⟨_, List.getElem?_eq_getElem hjn⟩
                have HMEM := Lib.hid (List.mem_of_getElem? hy)
                have HAT : Hid (At fs y (flat (S.take j)).length) := Lib.hid (by rw [← HFS.out]; exact at_of hy (HFC.out.tok y HMEM.out).2.1)
                obtain ⟨hl1, hl2⟩ := HFC.out.lt j y hy
                have hl0 : (Op.bytesLess (ByteArray.mk y.toArray).toList (ByteArray.mk (lastO S j).toArray).toList || ((ByteArray.mk y.toArray).toList == (ByteArray.mk (lastO S j).toArray).toList)) = false := by
                  have e : ∀ z : Tx, (ByteArray.mk z.toArray).toList = z := fun z => by simp
                  rw [e, e, hl1, hl2]; rfl
                have HNX : Hid ((flat (S.take (j + 1))).length = (flat (S.take j)).length + y.length + 2) := Lib.hid (by rw [take_step hy]; simp; omega)
                have HG := Lib.hid (mem_take (x := wGET) hy)
                have HH := Lib.hid (mem_take (x := wHEAD) hy)
                have HLN := Lib.hid (last_next hy)
                have hlt := HAT.out.lt
                clear hy
                generalize lastO S j = lo at *
                generalize decide (wGET ∈ S.take j) = gb at *
                generalize decide (wHEAD ∈ S.take j) = hb at *
                generalize (flat (S.take j)).length = A at *
                obtain ⟨m, hm⟩ : ∃ m, y.length = m := ⟨_, rfl⟩
                have HYM := Lib.hid hm
                rw [hm] at hlt HNX
                clear hm
                go_wp2_with fail
                go_loopw [15] (fun nv wr => ∃ p : Nat, A ≤ p ∧ p ≤ A + m ∧ nv = .int .i64 (p : Nat) ∧ St W wr (star (pt qb (.cells #[kS cur, kS xp, kS xq, .int .i64 xv, .slice fa fn fc, kS xb, .bool xc] 24 (0, 0))) (star (IsRt rp l es) (emp)))) (fun nv _ => A + m - (intOf nv).toNat)
                case atStart => exact ⟨A, Nat.le_refl _, by omega, rfl, hS⟩
                case round =>
                  obtain ⟨p, hp1, hp2, rfl, hS⟩ := hrel
                  have hsz : p < (ByteArray.mk fs.toArray).size := by simp [ByteArray.size]; omega
                  have hpI : (p : Int) < fs.length := by omega
                  have HGt := Lib.hid (get_at fs p hsz)
                  generalize hc : (ByteArray.mk fs.toArray)[p]'hsz = x at *
                  by_cases hpm : p < A + m
                  · have hne : ((x.toNat : Int) != 44) = true := ne_byte (c := 44) (HAT.out.ne p hp1 (by rw [HYM.out]; exact hpm) x HGt.out)
                    clear hl0 hl1 hl2
                    go_wp2_with fail
                    exact ⟨⟨p + 1, by omega, by omega, by go_num, hS⟩, by simp [intOf]; omega⟩
                  · obtain rfl : p = A + m := by omega
                    have hx44 : x = 44 := by have h1 := HGt.out; have h2 := HAT.out.comma; rw [HYM.out, h1] at h2; exact Option.some.inj h2
                    subst hx44
                    have hcut := HAT.out.cut
                    rw [HYM.out] at hcut
                    have hext : (ByteArray.mk fs.toArray).extract A (A + m) = ByteArray.mk y.toArray := by rw [str_extract, hcut]
                    have c0 := hS.cell 0 (v := kS cur) rfl
                    have f0 := hS.free 0
                    have h6 : St W (wr.setCell ⟨qb, 0, none⟩ (kS y)) (star (pt qb (.cells #[kS y, kS xp, kS xq, .int .i64 xv, .slice fa fn fc, kS xb, .bool xc] 24 (0, 0))) (star (IsRt rp l es) (emp))) := hS.setCell 0 (kS y)
                    clear hS hcut
                    go_upto_region 27 with fail
                    clear c0 f0 hext hc hsz HGt
                    generalize wr.setCell ⟨qb, 0, none⟩ (kS y) = w6 at *
                    obtain ⟨cd, bd, k, hx, hcd, hk⟩ := HFC.out.sv y HMEM.out
                    have HX := Lib.hid hx
                    have HCD := Lib.hid hcd
                    clear hx hcd
                    have hs := h6.eq (B := star (IsRt rp l es) (star (pt qb (.cells #[kS y, kS xp, kS xq, .int .i64 xv, .slice fa fn fc, kS xb, .bool xc] 24 (0, 0))) (emp))) (by ac_rfl)
                    have c0 := hs.right.cell 0 (v := kS y) rfl
                    have c1 := hs.right.cell 1 (v := kS xp) rfl
                    have c2 := hs.right.cell 2 (v := kS xq) rfl
                    have c3 := hs.right.cell 3 (v := .int .i64 xv) rfl
                    have c4 := hs.right.cell 4 (v := .slice fa fn fc) rfl
                    have c5 := hs.right.cell 5 (v := kS xb) rfl
                    have c6 := hs.right.cell 6 (v := .bool xc) rfl
                    have HSv := Lib.hid ((Serve_any rp l es hs HRI.out (by rw [HN.out]; omega) HLB.out HM.out (RtN.path_max HM.out) y xp xq xv fa fn fc xb xc HXP.out).mono fun e w h => sv_zero HX.out h)
                    clear hs h6
                    go_wp2_with fail
                    refine HSv.out.mono ?_
                    rintro e ws ⟨fa1, fc1, rfl, hs2⟩
                    have hs3 := hs2.alloc (.cells #[.int .i64 cd, .slice fa1 0 fc1, kS bd] 29 (0, 0))
                    obtain ⟨yb1, hyb⟩ : ∃ z, ws.heap.size = z := ⟨_, rfl⟩
                    rw [hyb] at hs3
                    clear HSv hs2 c0 c1 c2 c3 c4 c5 c6
                    have k0 := hs3.cell 0 (v := .int .i64 cd) rfl
                    have h7 := hs3.right.eq (B := star (pt qb (.cells #[kS y, kS xp, kS xq, .int .i64 xv, .slice fa fn fc, kS xb, .bool xc] 24 (0, 0))) (star (IsRt rp l es) (star (Row 43 2 (.slice fa1 0 fc1) 0 (fldV [])) emp))) (by ac_rfl)
                    have c0 : (ws.alloc (.cells #[.int .i64 cd, .slice fa1 0 fc1, kS bd] 29 (0, 0))).cell? ⟨qb, 0, none⟩ = some (kS y) := h7.cell 0 (v := kS y) rfl
                    have h8 : St W (ws.alloc (.cells #[.int .i64 cd, .slice fa1 0 fc1, kS bd] 29 (0, 0))) (star (pt qb (.cells #[kS y, kS xp, kS xq, .int .i64 xv, .slice fa fn fc, kS xb, .bool xc] 24 (0, 0))) (star (IsRt rp l es) (emp))) := hs3.right.right.eq (by ac_rfl)
                    clear hs3 h7
                    go_upto_region 28 with fail
                    clear hyb
                    generalize ws.alloc (.cells #[.int .i64 cd, .slice fa1 0 fc1, kS bd] 29 (0, 0)) = w7 at *
                    have HS3 := Lib.hid h8
                    clear h8
                    rcases HCD.out with rfl | rfl
                    ·
                      cases gb
                      case false =>
                        cases hg1 : (y == [71, 69, 84])
                        case false =>
                          cases hb
                          case false =>
                            cases hh1 : (y == [72, 69, 65, 68])
                            case false =>
                              go_wp2_with fail
                              exact ⟨⟨j + 1, hjn, by rw [HLN.out], by rw [HG.out, show (y == wGET) = false from hg1]; rfl, by rw [HH.out, show (y == wHEAD) = false from hh1]; rfl, by rw [HNX.out]; go_num, y, HS3.out⟩, by simp [intOf]; omega⟩
                            case true =>
                              go_wp2_with fail
                              exact ⟨⟨j + 1, hjn, by rw [HLN.out], by rw [HG.out, show (y == wGET) = false from hg1]; rfl, by rw [HH.out, show (y == wHEAD) = true from hh1]; rfl, by rw [HNX.out]; go_num, y, HS3.out⟩, by simp [intOf]; omega⟩
                          case true =>
                            go_wp2_with fail
                            exact ⟨⟨j + 1, hjn, by rw [HLN.out], by rw [HG.out, show (y == wGET) = false from hg1]; rfl, by rw [HH.out]; rfl, by rw [HNX.out]; go_num, y, HS3.out⟩, by simp [intOf]; omega⟩
                        case true =>
                          cases hb
                          case false =>
                            cases hh1 : (y == [72, 69, 65, 68])
                            case false =>
                              go_wp2_with fail
                              exact ⟨⟨j + 1, hjn, by rw [HLN.out], by rw [HG.out, show (y == wGET) = true from hg1]; rfl, by rw [HH.out, show (y == wHEAD) = false from hh1]; rfl, by rw [HNX.out]; go_num, y, HS3.out⟩, by simp [intOf]; omega⟩
                            case true =>
                              go_wp2_with fail
                              exact ⟨⟨j + 1, hjn, by rw [HLN.out], by rw [HG.out, show (y == wGET) = true from hg1]; rfl, by rw [HH.out, show (y == wHEAD) = true from hh1]; rfl, by rw [HNX.out]; go_num, y, HS3.out⟩, by simp [intOf]; omega⟩
                          case true =>
                            go_wp2_with fail
                            exact ⟨⟨j + 1, hjn, by rw [HLN.out], by rw [HG.out, show (y == wGET) = true from hg1]; rfl, by rw [HH.out]; rfl, by rw [HNX.out]; go_num, y, HS3.out⟩, by simp [intOf]; omega⟩
                      case true =>
                        cases hb
                        case false =>
                          cases hh1 : (y == [72, 69, 65, 68])
                          case false =>
                            go_wp2_with fail
                            exact ⟨⟨j + 1, hjn, by rw [HLN.out], by rw [HG.out]; rfl, by rw [HH.out, show (y == wHEAD) = false from hh1]; rfl, by rw [HNX.out]; go_num, y, HS3.out⟩, by simp [intOf]; omega⟩
                          case true =>
                            go_wp2_with fail
                            exact ⟨⟨j + 1, hjn, by rw [HLN.out], by rw [HG.out]; rfl, by rw [HH.out, show (y == wHEAD) = true from hh1]; rfl, by rw [HNX.out]; go_num, y, HS3.out⟩, by simp [intOf]; omega⟩
                        case true =>
                          go_wp2_with fail
                          exact ⟨⟨j + 1, hjn, by rw [HLN.out], by rw [HG.out]; rfl, by rw [HH.out]; rfl, by rw [HNX.out]; go_num, y, HS3.out⟩, by simp [intOf]; omega⟩
                    ·
                      cases gb
                      case false =>
                        cases hg1 : (y == [71, 69, 84])
                        case false =>
                          cases hb
                          case false =>
                            cases hh1 : (y == [72, 69, 65, 68])
                            case false =>
                              go_wp2_with fail
                              exact ⟨⟨j + 1, hjn, by rw [HLN.out], by rw [HG.out, show (y == wGET) = false from hg1]; rfl, by rw [HH.out, show (y == wHEAD) = false from hh1]; rfl, by rw [HNX.out]; go_num, y, HS3.out⟩, by simp [intOf]; omega⟩
                            case true =>
                              go_wp2_with fail
                              exact ⟨⟨j + 1, hjn, by rw [HLN.out], by rw [HG.out, show (y == wGET) = false from hg1]; rfl, by rw [HH.out, show (y == wHEAD) = true from hh1]; rfl, by rw [HNX.out]; go_num, y, HS3.out⟩, by simp [intOf]; omega⟩
                          case true =>
                            go_wp2_with fail
                            exact ⟨⟨j + 1, hjn, by rw [HLN.out], by rw [HG.out, show (y == wGET) = false from hg1]; rfl, by rw [HH.out]; rfl, by rw [HNX.out]; go_num, y, HS3.out⟩, by simp [intOf]; omega⟩
                        case true =>
                          cases hb
                          case false =>
                            cases hh1 : (y == [72, 69, 65, 68])
                            case false =>
                              go_wp2_with fail
                              exact ⟨⟨j + 1, hjn, by rw [HLN.out], by rw [HG.out, show (y == wGET) = true from hg1]; rfl, by rw [HH.out, show (y == wHEAD) = false from hh1]; rfl, by rw [HNX.out]; go_num, y, HS3.out⟩, by simp [intOf]; omega⟩
                            case true =>
                              go_wp2_with fail
                              exact ⟨⟨j + 1, hjn, by rw [HLN.out], by rw [HG.out, show (y == wGET) = true from hg1]; rfl, by rw [HH.out, show (y == wHEAD) = true from hh1]; rfl, by rw [HNX.out]; go_num, y, HS3.out⟩, by simp [intOf]; omega⟩
                          case true =>
                            go_wp2_with fail
                            exact ⟨⟨j + 1, hjn, by rw [HLN.out], by rw [HG.out, show (y == wGET) = true from hg1]; rfl, by rw [HH.out]; rfl, by rw [HNX.out]; go_num, y, HS3.out⟩, by simp [intOf]; omega⟩
                      case true =>
                        cases hb
                        case false =>
                          cases hh1 : (y == [72, 69, 65, 68])
                          case false =>
                            go_wp2_with fail
                            exact ⟨⟨j + 1, hjn, by rw [HLN.out], by rw [HG.out]; rfl, by rw [HH.out, show (y == wHEAD) = false from hh1]; rfl, by rw [HNX.out]; go_num, y, HS3.out⟩, by simp [intOf]; omega⟩
                          case true =>
                            go_wp2_with fail
                            exact ⟨⟨j + 1, hjn, by rw [HLN.out], by rw [HG.out]; rfl, by rw [HH.out, show (y == wHEAD) = true from hh1]; rfl, by rw [HNX.out]; go_num, y, HS3.out⟩, by simp [intOf]; omega⟩
                        case true =>
                          go_wp2_with fail
                          exact ⟨⟨j + 1, hjn, by rw [HLN.out], by rw [HG.out]; rfl, by rw [HH.out]; rfl, by rw [HNX.out]; go_num, y, HS3.out⟩, by simp [intOf]; omega⟩
              · obtain rfl : j = S.length := by omega
                have HLA : Hid (lastO S S.length ≠ []) := Lib.hid HFC.out.last
                have HGE := Lib.hid HFC.out.get
                have HHD := Lib.hid HFC.out.head
                rw [List.take_length, HFS.out]
                generalize lastO S S.length = lo at *
                have hlo : (lo == []) = false := by rw [beq_eq_false_iff_ne]; exact HLA.out
                have hlo2 : (lo != []) = true := by rw [bne_iff_ne]; exact HLA.out
                obtain ⟨gb, hgb⟩ : ∃ b, decide (wGET ∈ S) = b := ⟨_, rfl⟩
                obtain ⟨hb, hhb⟩ : ∃ b, decide (wHEAD ∈ S) = b := ⟨_, rfl⟩
                rw [hgb, hhb]
                have HGB := Lib.hid hgb
                have HHB := Lib.hid hhb
                clear hgb hhb hj hjn
                cases gb
                case false =>
                  go_wp2_with fail
                  go_loopw [18, 19] (fun ov iv wr => ∃ i : Nat, i ≤ n ∧ ov = .bool (decide (wHEAD ∈ (l.take i).map Rt.m)) ∧ iv = .int .i64 i ∧ St W wr (star (pt qb (.cells #[kS cur, kS xp, kS xq, .int .i64 xv, .slice fa fn fc, kS xb, .bool xc] 24 (0, 0))) (star (IsRt rp l es) (emp)))) (fun _ iv _ => n - (intOf iv).toNat)
                  case atStart => exact ⟨0, Nat.zero_le _, by simp, rfl, hS⟩
                  case round =>
                    obtain ⟨i, hi, rfl, rfl, hS⟩ := hrel
                    by_cases hin : i < n
                    · obtain ⟨y, hy⟩ : ∃ y, l[i]? = some y := ⟨_, List.getElem?_eq_getElem (by rw [HN.out]; exact hin)⟩
                      have HNX : Hid (decide (wHEAD ∈ (l.take (i + 1)).map Rt.m) = (decide (wHEAD ∈ (l.take i).map Rt.m) || (y.m == wHEAD))) := Lib.hid (by
                        rw [List.map_take, List.map_take]
                        exact mem_take (by rw [List.getElem?_map, hy]; rfl))
                      obtain ⟨ab, ao, rfl, hel⟩ := elR HSL.out hy
                      obtain ⟨e0, e1, e2, e3⟩ := hel _ _ hS
                      obtain ⟨ym, yp, yk, yt⟩ := y
                      dsimp only at e0 e1 e2 e3 HNX
                      have hinI : (i : Int) < n := by omega
                      clear hy hel e1 e2 e3
                      generalize decide (wHEAD ∈ (l.take i).map Rt.m) = ob at *
                      cases ob
                      case true =>
                        go_wp2_with fail
                        exact ⟨⟨i + 1, hin, by rw [HNX.out]; rfl, by go_num, hS⟩, by simp [intOf]; omega⟩
                      case false =>
                        cases hb1 : (ym == [72, 69, 65, 68])
                        case true =>
                          go_wp2_with fail
                          exact ⟨⟨i + 1, hin, by rw [HNX.out, show (ym == wHEAD) = true from hb1]; rfl, by go_num, hS⟩, by simp [intOf]; omega⟩
                        case false =>
                          go_wp2_with fail
                          exact ⟨⟨i + 1, hin, by rw [HNX.out, show (ym == wHEAD) = false from hb1]; rfl, by go_num, hS⟩, by simp [intOf]; omega⟩
                    · obtain rfl : n = i := by omega
                      have HTK : Hid (l.take n = l) := Lib.hid (List.take_of_length_le (by rw [HN.out]; exact Nat.le_refl _))
                      rw [HTK.out]
                      obtain ⟨ob, hob⟩ : ∃ b, decide (wHEAD ∈ l.map Rt.m) = b := ⟨_, rfl⟩
                      rw [hob]
                      have HOB := Lib.hid hob
                      clear hob hin hi
                      have HWk := Lib.hid (wakes_any HM.out (RtN.path_max HM.out) hS)
                      clear hS
                      go_wp2_with fail
                      refine HWk.out.mono ?_
                      rintro e wx ⟨rfl, hx⟩
                      go_wp2
                      go_ret
                      exact ⟨rfl, hx.fin⟩
                case true =>
                  have hmem : wGET ∈ S := of_decide_eq_true HGB.out
                  obtain rfl : hb = true := by rw [← HHB.out]; exact decide_eq_true (HGE.out hmem)
                  have HMG := Lib.hid hmem
                  clear hmem
                  go_wp2_with fail
                  go_loopw [18, 19] (fun ov iv wr => ∃ i : Nat, i ≤ n ∧ ov = .bool (decide (wHEAD ∈ (l.take i).map Rt.m)) ∧ iv = .int .i64 i ∧ St W wr (star (pt qb (.cells #[kS cur, kS xp, kS xq, .int .i64 xv, .slice fa fn fc, kS xb, .bool xc] 24 (0, 0))) (star (IsRt rp l es) (emp)))) (fun _ iv _ => n - (intOf iv).toNat)
                  case atStart => exact ⟨0, Nat.zero_le _, by simp, rfl, hS⟩
                  case round =>
                    obtain ⟨i, hi, rfl, rfl, hS⟩ := hrel
                    by_cases hin : i < n
                    · obtain ⟨y, hy⟩ : ∃ y, l[i]? = some y := ⟨_, List.getElem?_eq_getElem (by rw [HN.out]; exact hin)⟩
                      have HNX : Hid (decide (wHEAD ∈ (l.take (i + 1)).map Rt.m) = (decide (wHEAD ∈ (l.take i).map Rt.m) || (y.m == wHEAD))) := Lib.hid (by
                        rw [List.map_take, List.map_take]
                        exact mem_take (by rw [List.getElem?_map, hy]; rfl))
                      obtain ⟨ab, ao, rfl, hel⟩ := elR HSL.out hy
                      obtain ⟨e0, e1, e2, e3⟩ := hel _ _ hS
                      obtain ⟨ym, yp, yk, yt⟩ := y
                      dsimp only at e0 e1 e2 e3 HNX
                      have hinI : (i : Int) < n := by omega
                      clear hy hel e1 e2 e3
                      generalize decide (wHEAD ∈ (l.take i).map Rt.m) = ob at *
                      cases ob
                      case true =>
                        go_wp2_with fail
                        exact ⟨⟨i + 1, hin, by rw [HNX.out]; rfl, by go_num, hS⟩, by simp [intOf]; omega⟩
                      case false =>
                        cases hb1 : (ym == [72, 69, 65, 68])
                        case true =>
                          go_wp2_with fail
                          exact ⟨⟨i + 1, hin, by rw [HNX.out, show (ym == wHEAD) = true from hb1]; rfl, by go_num, hS⟩, by simp [intOf]; omega⟩
                        case false =>
                          go_wp2_with fail
                          exact ⟨⟨i + 1, hin, by rw [HNX.out, show (ym == wHEAD) = false from hb1]; rfl, by go_num, hS⟩, by simp [intOf]; omega⟩
                    · obtain rfl : n = i := by omega
                      have HTK : Hid (l.take n = l) := Lib.hid (List.take_of_length_le (by rw [HN.out]; exact Nat.le_refl _))
                      rw [HTK.out]
                      obtain ⟨ob, hob⟩ : ∃ b, decide (wHEAD ∈ l.map Rt.m) = b := ⟨_, rfl⟩
                      rw [hob]
                      have HOB := Lib.hid hob
                      clear hob hin hi
                      cases ob
                      case true =>
                        have HWk := Lib.hid (wakes_any HM.out (RtN.path_max HM.out) hS)
                        clear hS
                        go_wp2_with fail
                        refine HWk.out.mono ?_
                        rintro e wx ⟨rfl, hx⟩
                        go_wp2
                        go_ret
                        exact ⟨rfl, hx.fin⟩
                      case false =>
                        have hno : ∀ r ∈ l, r.m ≠ wHEAD := fun r hr e => by
                          have := of_decide_eq_false HOB.out
                          exact this (List.mem_map.2 ⟨r, hr, e⟩)
                        have hsame := HHD.out hno HMG.out
                        obtain ⟨cd, bd, k, hx, -, -⟩ := HFC.out.sv wGET HMG.out
                        rw [hx] at hsame
                        have HX1 := Lib.hid hx
                        have HX2 := Lib.hid hsame
                        have c0 := hS.cell 0 (v := kS cur) rfl
                        have f0 := hS.free 0
                        have h6 : St W (wr.setCell ⟨qb, 0, none⟩ (.string ⟨#[71, 69, 84]⟩)) (star (pt qb (.cells #[.string ⟨#[71, 69, 84]⟩, kS xp, kS xq, .int .i64 xv, .slice fa fn fc, kS xb, .bool xc] 24 (0, 0))) (star (IsRt rp l es) (emp))) := hS.setCell 0 (.string ⟨#[71, 69, 84]⟩)
                        clear hno hx hsame hS
                        go_upto_region 43 with fail
                        clear c0 f0
                        generalize wr.setCell ⟨qb, 0, none⟩ (.string ⟨#[71, 69, 84]⟩) = w6 at *
                        have hs := h6.eq (B := star (IsRt rp l es) (star (pt qb (.cells #[.string ⟨#[71, 69, 84]⟩, kS xp, kS xq, .int .i64 xv, .slice fa fn fc, kS xb, .bool xc] 24 (0, 0))) (emp))) (by ac_rfl)
                        have c0 := hs.right.cell 0 (v := .string ⟨#[71, 69, 84]⟩) rfl
                        have c1 := hs.right.cell 1 (v := kS xp) rfl
                        have c2 := hs.right.cell 2 (v := kS xq) rfl
                        have c3 := hs.right.cell 3 (v := .int .i64 xv) rfl
                        have c4 := hs.right.cell 4 (v := .slice fa fn fc) rfl
                        have c5 := hs.right.cell 5 (v := kS xb) rfl
                        have c6 := hs.right.cell 6 (v := .bool xc) rfl
                        have HSv := Lib.hid ((Serve_any rp l es hs HRI.out (by rw [HN.out]; omega) HLB.out HM.out (RtN.path_max HM.out) wGET xp xq xv fa fn fc xb xc HXP.out).mono fun e w h => sv_zero HX1.out h)
                        clear hs h6
                        go_wp2_with fail
                        refine HSv.out.mono ?_
                        rintro e ws ⟨fa2, fc2, rfl, hs2⟩
                        have hs3 := hs2.alloc (.cells #[.int .i64 cd, .slice fa2 0 fc2, kS bd] 29 (0, 0))
                        obtain ⟨yb2, hyb⟩ : ∃ z, ws.heap.size = z := ⟨_, rfl⟩
                        rw [hyb] at hs3
                        clear HSv hs2 c0 c1 c2 c3 c4 c5 c6
                        have h7 := hs3.eq (B := star (pt qb (.cells #[.string ⟨#[71, 69, 84]⟩, kS xp, kS xq, .int .i64 xv, .slice fa fn fc, kS xb, .bool xc] 24 (0, 0))) (star (IsRt rp l es) (star (pt yb2 (.cells #[.int .i64 cd, .slice fa2 0 fc2, kS bd] 29 (0, 0))) (star (Row 43 2 (.slice fa2 0 fc2) 0 (fldV [])) (emp))))) (by ac_rfl)
                        clear hs3
                        have c0 : (ws.alloc (.cells #[.int .i64 cd, .slice fa2 0 fc2, kS bd] 29 (0, 0))).cell? ⟨qb, 0, none⟩ = some (.string ⟨#[71, 69, 84]⟩) := h7.cell 0 (v := .string ⟨#[71, 69, 84]⟩) rfl
                        have f0 := h7.free 0
                        have h8 : St W ((ws.alloc (.cells #[.int .i64 cd, .slice fa2 0 fc2, kS bd] 29 (0, 0))).setCell ⟨qb, 0, none⟩ (.string ⟨#[72, 69, 65, 68]⟩)) (star (pt qb (.cells #[.string ⟨#[72, 69, 65, 68]⟩, kS xp, kS xq, .int .i64 xv, .slice fa fn fc, kS xb, .bool xc] 24 (0, 0))) (star (IsRt rp l es) (star (pt yb2 (.cells #[.int .i64 cd, .slice fa2 0 fc2, kS bd] 29 (0, 0))) (star (Row 43 2 (.slice fa2 0 fc2) 0 (fldV [])) (emp))))) := h7.setCell 0 (.string ⟨#[72, 69, 65, 68]⟩)
                        clear h7
                        go_upto_region 45 with fail
                        clear c0 f0 hyb
                        generalize (ws.alloc (.cells #[.int .i64 cd, .slice fa2 0 fc2, kS bd] 29 (0, 0))).setCell ⟨qb, 0, none⟩ (.string ⟨#[72, 69, 65, 68]⟩) = w8 at *
                        have hs := h8.eq (B := star (IsRt rp l es) (star (pt qb (.cells #[.string ⟨#[72, 69, 65, 68]⟩, kS xp, kS xq, .int .i64 xv, .slice fa fn fc, kS xb, .bool xc] 24 (0, 0))) (star (pt yb2 (.cells #[.int .i64 cd, .slice fa2 0 fc2, kS bd] 29 (0, 0))) (star (Row 43 2 (.slice fa2 0 fc2) 0 (fldV [])) (emp))))) (by ac_rfl)
                        have c0 := hs.right.cell 0 (v := .string ⟨#[72, 69, 65, 68]⟩) rfl
                        have c1 := hs.right.cell 1 (v := kS xp) rfl
                        have c2 := hs.right.cell 2 (v := kS xq) rfl
                        have c3 := hs.right.cell 3 (v := .int .i64 xv) rfl
                        have c4 := hs.right.cell 4 (v := .slice fa fn fc) rfl
                        have c5 := hs.right.cell 5 (v := kS xb) rfl
                        have c6 := hs.right.cell 6 (v := .bool xc) rfl
                        have HSv := Lib.hid ((Serve_any rp l es hs HRI.out (by rw [HN.out]; omega) HLB.out HM.out (RtN.path_max HM.out) wHEAD xp xq xv fa fn fc xb xc HXP.out).mono fun e w h => sv_zero HX2.out h)
                        clear hs h8
                        go_wp2_with fail
                        refine HSv.out.mono ?_
                        rintro e wz ⟨fa3, fc3, rfl, hs2⟩
                        have hs3 := hs2.alloc (.cells #[.int .i64 cd, .slice fa3 0 fc3, kS bd] 29 (0, 0))
                        obtain ⟨yb3, hyb⟩ : ∃ z, wz.heap.size = z := ⟨_, rfl⟩
                        rw [hyb] at hs3
                        clear HSv hs2 c0 c1 c2 c3 c4 c5 c6
                        go_upto_region 46 with fail
                        clear hyb
                        generalize wz.alloc (.cells #[.int .i64 cd, .slice fa3 0 fc3, kS bd] 29 (0, 0)) = w9 at *
                        have k0 := hs3.cell 0 (v := .int .i64 cd) rfl
                        have k1 := hs3.cell 1 (v := .slice fa3 0 fc3) rfl
                        have k2 := hs3.cell 2 (v := kS bd) rfl
                        have h7 := hs3.eq (B := star (pt yb2 (.cells #[.int .i64 cd, .slice fa2 0 fc2, kS bd] 29 (0, 0))) (star (Row 43 2 (.slice fa2 0 fc2) 0 (fldV [])) (star (pt yb3 (.cells #[.int .i64 cd, .slice fa3 0 fc3, kS bd] 29 (0, 0))) (star (Row 43 2 (.slice fa3 0 fc3) 0 (fldV [])) (star (IsRt rp l es) (star (pt qb (.cells #[.string ⟨#[72, 69, 65, 68]⟩, kS xp, kS xq, .int .i64 xv, .slice fa fn fc, kS xb, .bool xc] 24 (0, 0))) (emp))))))) (by ac_rfl)
                        have q0 := h7.cell 0 (v := .int .i64 cd) rfl
                        have q1 := h7.cell 1 (v := .slice fa2 0 fc2) rfl
                        have q2 := h7.cell 2 (v := kS bd) rfl
                        have hS0 := h7.right.rowSl
                        have hS1 := hs3.right.rowSl
                        have HSm := Lib.hid (Same_any _ cd fa2 0 fc2 [] bd cd fa3 0 fc3 [] bd rfl rfl (by omega) hS0 hS1)
                        rw [same_true] at HSm
                        clear hS0 hS1 h7
                        go_wp2_with fail
                        refine HSm.out.mono ?_
                        rintro e wu hqu
                        have h9 := hs3.makes hqu
                        obtain ⟨rfl, -⟩ := hqu
                        clear HSm hs3 k0 k1 k2 q0 q1 q2
                        have HWk := Lib.hid (wakes_any HM.out (RtN.path_max HM.out) h9)
                        clear h9
                        go_wp2_with fail
                        refine HWk.out.mono ?_
                        rintro e wx ⟨rfl, hx⟩
                        go_wp2
                        go_ret
                        exact ⟨rfl, hx.fin⟩
end Go.Proofs.YtlofiaaacepgmaaGreatDoor.RtL
