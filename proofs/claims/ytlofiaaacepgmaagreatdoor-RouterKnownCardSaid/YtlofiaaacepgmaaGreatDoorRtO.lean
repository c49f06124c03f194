import Derived.Test.YtlofiaaacepgmaaGreatDoorRtN
namespace Go.Proofs.YtlofiaaacepgmaaGreatDoor.RtO
open Go Go.RowKit Go.Proofs Go.Proofs.YtlofiaaacepgmaaGreatDoor.Sep Go.Proofs.YtlofiaaacepgmaaGreatDoor.Reg Go.Proofs.YtlofiaaacepgmaaGreatDoor.Frame Go.Proofs.YtlofiaaacepgmaaGreatDoor.Strs Go.Proofs.YtlofiaaacepgmaaGreatDoor.Mp Go.Proofs.YtlofiaaacepgmaaGreatDoor.TrP Go.Proofs.YtlofiaaacepgmaaGreatDoor.TrQ Go.Proofs.YtlofiaaacepgmaaGreatDoor.RtP Go.Proofs.YtlofiaaacepgmaaGreatDoor.RtQ Go.Proofs.YtlofiaaacepgmaaGreatDoor.RtA Go.Proofs.YtlofiaaacepgmaaGreatDoor.RtC Go.Proofs.YtlofiaaacepgmaaGreatDoor.RtB Go.Proofs.YtlofiaaacepgmaaGreatDoor.RtV Go.Proofs.YtlofiaaacepgmaaGreatDoor.RtW Go.Proofs.YtlofiaaacepgmaaGreatDoor.RtX Go.Proofs.YtlofiaaacepgmaaGreatDoor.RtG

/-- Turned by k. -/
def rotG (l : List Rt) (k : Nat) : List Rt := l.drop k ++ l.take k
theorem rotG_perm (l : List Rt) (k : Nat) : (rotG l k).Perm l := by
  unfold rotG
  refine List.perm_append_comm.trans ?_
  rw [List.take_append_drop]
theorem rotG_get (l : List Rt) (k i : Nat) (hk : k < l.length) (hi : i < l.length) : (rotG l k)[i]? = l[(i + k) % l.length]? := by
  unfold rotG
  by_cases h : i < l.length - k
  · rw [List.getElem?_append_left (by simpa using h), List.getElem?_drop, Nat.mod_eq_of_lt (by omega), Nat.add_comm]
  · rw [List.getElem?_append_right (by simp; omega), List.length_drop, List.getElem?_take, if_pos (by omega)]
    have : (i + k) % l.length = i - (l.length - k) := by
      rw [Nat.mod_eq_sub_mod (by omega), Nat.mod_eq_of_lt (by omega)]
      omega
    rw [this]
theorem turn_nat (t : Int) (n : Nat) (h : 0 < n) : ∃ k : Nat, k < n ∧ ((Int.tmod t n < 0 ∧ Int.tmod t n + n = k) ∨ (0 ≤ Int.tmod t n ∧ Int.tmod t n = k)) := by
  have h1 : -(n : Int) < Int.tmod t n := by
    have := Int.lt_tmod_of_pos t (show (0 : Int) < n by omega)
    omega
  have h2 : Int.tmod t n < n := Int.tmod_lt_of_pos t (by omega)
  by_cases h0 : Int.tmod t n < 0
  · exact ⟨(Int.tmod t n + n).toNat, by omega, .inl ⟨h0, by omega⟩⟩
  · exact ⟨(Int.tmod t n).toNat, by omega, .inr ⟨by omega, by omega⟩⟩
theorem newN_ok {l : List Rt} (h : l.length ≤ 32) : newN l = 0 ↔ makes l := by
  unfold newN
  rw [if_neg (by omega)]
  exact new_ok h
theorem newN_len {l : List Rt} (h : newN l = 0) : l.length ≤ 32 := by
  unfold newN at h
  split at h
  · cases h
  · omega
theorem newN_ri {l : List Rt} (h : newN l = 0) : RI (newR [] l).2 l := by
  have hl := newN_len h
  refine new_ri hl ?_
  unfold newN at h
  rwa [if_neg (by omega)] at h
theorem sv_any {W w' : World} {rp : Nat} {l : List Rt} {es : RE} {x : Rep × Int} {R : Asn} {e : Ending} {n k : Int} {t : Tx} {f : List (Tx × Tx)} (hx : x = ((n, f, t), k)) (h : SvPst W rp l es x R e w') :
    ∃ a m c, e = .returned (.tuple #[.agg #[.int .i64 n, .slice a m c, kS t], .int .i64 k]) ∧ f.length = m ∧ St W w' (star (Row 43 2 (.slice a m c) m (fldV f)) (star (IsRt rp l es) R)) := by subst hx; obtain ⟨a, c, h1, h2⟩ := h; exact ⟨a, _, c, h1, rfl, h2⟩
theorem serve_few (es : RE) (q : Rq) : (serveR es q).1.2.1.length ≤ 1 := by
  unfold serveR
  split
  · simp
  · split
    · simp
    · split
      · simp
      · rename_i r _
        rw [answers_nil (r := r) (x := answers r q.body _) rfl]
        simp
theorem same_true (f : List (Tx × Tx)) (c : Int) (b : Tx) : (decide (f = f) && (decide (c = c) && decide (b = b))) = true := by simp
set_option maxRecDepth 100000 in
set_option maxHeartbeats 64000000 in
theorem order_any {W : World} (hm : TrS.MaxLen W) (a : Option Addr) (n c : Nat) (l : List Rt) (hln : l.length = n) (hsl : Sl W 4 (.slice a n c) n (l.flatMap RouteC.E)) (_ : ∀ x ∈ l, RouteC.Ok x) (turn : Int) (hturn : (Lit.int .i64 turn).wf = true) (x : ReqC.T) (_ : ReqC.Ok x) :
    Calls Tryz.prog 4 #[.slice a n c, .int .i64 turn, .agg (ReqC.E x).toArray] W (Law W emp) := by
  have HM := Lib.hid hm
  have HN := Lib.hid hln
  have HSL : Hid (Sl W 4 (.slice a n c) n (rsV l)) := Lib.hid hsl
  have HTN : Hid (-9223372036854775808 ≤ turn ∧ turn ≤ 9223372036854775807) := Lib.hid (by simpa [Lit.wf, IntKind.min, IntKind.max, IntKind.signed, IntKind.bits] using hturn)
  have hcap : n ≤ c ∧ c ≤ 9223372036854775807 := by obtain ⟨_, _, _, hv, h1, h2, _⟩ := hsl; cases hv; exact ⟨h1, by simpa [maxLen] using h2⟩
  obtain ⟨xm, xp, xq, xv, fa, fn, fc, xb, xc⟩ := x
  have h1 := (St.start W).alloc (.cells #[kS xm, kS xp, kS xq, .int .i64 xv, .slice fa fn fc, kS xb, .bool xc] 24 (0, 0))
  have HGr := Lib.hid fun w hs => Great_any a n c l HN.out w hs ⟨xm, xp, xq, xv, fa, fn, fc, xb, xc⟩
  clear hm hln hsl hturn
  show Calls Tryz.prog 4 #[.slice a n c, .int .i64 turn, .agg #[kS xm, kS xp, kS xq, .int .i64 xv, .slice fa fn fc, kS xb, .bool xc]] W (Law W emp)
  obtain ⟨qb, hqb⟩ : ∃ z, W.heap.size = z := ⟨_, rfl⟩
  rw [hqb] at h1
  have c0 := h1.cell 0 (v := kS xm) rfl
  have c1 := h1.cell 1 (v := kS xp) rfl
  have c2 := h1.cell 2 (v := kS xq) rfl
  have c3 := h1.cell 3 (v := .int .i64 xv) rfl
  have c4 := h1.cell 4 (v := .slice fa fn fc) rfl
  have c5 := h1.cell 5 (v := kS xb) rfl
  have c6 := h1.cell 6 (v := .bool xc) rfl
  go_enter Tryz.func4, Tryz.ntmps4
  go_wp2_with fail
  clear hqb
  generalize W.alloc (.cells #[kS xm, kS xp, kS xq, .int .i64 xv, .slice fa fn fc, kS xb, .bool xc] 24 (0, 0)) = w1 at *
  refine (HGr.out _ (sl_past HSL.out h1)).mono ?_
  rintro e w2 ⟨gb, hq, hgb⟩
  have h2 := h1.makes hq
  obtain ⟨rfl, -⟩ := hq
  clear HGr h1 c0 c1 c2 c3 c4 c5 c6
  cases gb with
  | true =>
    have HW2 := Lib.hid (wakes_any HM.out (RtN.path_max HM.out) h2)
    go_wp2_with fail
    refine HW2.out.mono ?_
    rintro e w3 ⟨rfl, h3⟩
    go_wp2
    go_ret
    exact ⟨rfl, h3.right⟩
  | false =>
    obtain ⟨hl40, hxp, -, -, hls⟩ := hgb rfl
    dsimp only at hxp
    have HXP := Lib.hid hxp
    have HLB : Hid (∀ r ∈ l, r.m.length ≤ 1000 ∧ r.p.length ≤ 1000) := Lib.hid fun r hr => by have := hls r hr; omega
    have HLS : Hid (∀ r ∈ l, r.m.length ≤ 1000000 ∧ r.p.length ≤ 1000000) := Lib.hid fun r hr => by have := hls r hr; omega
    have hn40 : n ≤ 40 := by have := HN.out; omega
    clear hgb hl40 hls hxp
    have HNw := Lib.hid (New_any a n c l HN.out (by omega) h2 (sl_past HSL.out h2) HM.out HLS.out)
    clear h2
    go_wp2_with fail
    refine HNw.out.mono ?_
    rintro e w3 (⟨hne, rfl, h3⟩ | ⟨hnn, rp, rfl, h3⟩)
    · obtain ⟨nv, hnv⟩ : ∃ nv, newN l = nv := ⟨_, rfl⟩
      rw [hnv] at hne ⊢
      have hb : (nv != 0) = true := by simpa using hne
      have HW2 := Lib.hid (wakes_any HM.out (RtN.path_max HM.out) h3)
      clear hnv hne HNw
      go_wp2_with fail
      refine HW2.out.mono ?_
      rintro e w4 ⟨rfl, h4⟩
      go_wp2
      go_ret
      exact ⟨rfl, h4.right⟩
    · have hn32 : n ≤ 32 := by have := newN_len hnn; have := HN.out; omega
      have HMK : Hid (makes l) := Lib.hid ((newN_ok (by rw [HN.out]; exact hn32)).1 hnn)
      have HRI := Lib.hid (newN_ri hnn)
      obtain ⟨es, hes⟩ : ∃ es, (newR [] l).2 = es := ⟨_, rfl⟩
      rw [hes] at h3 HRI
      clear hnn hes HNw
      have hkk : ∃ kk : Nat, (0 < n → kk < n ∧ ((Int.tmod turn n < 0 ∧ Int.tmod turn n + n = kk) ∨ (0 ≤ Int.tmod turn n ∧ Int.tmod turn n = kk))) := by
        by_cases h : 0 < n
        · obtain ⟨k, h1, h2⟩ := turn_nat turn n h
          exact ⟨k, fun _ => ⟨h1, h2⟩⟩
        · exact ⟨0, fun h2 => absurd h2 h⟩
      obtain ⟨kk, hkk⟩ := hkk
      have HKK := Lib.hid hkk
      clear hkk
      obtain ⟨i0, hi0, hz0, hz1, hz2⟩ := info_parts infoR
      have U := Tryz.underlying33
      go_wp2_with fail
      go_loopw [9, 10, 11] (fun mv bv iv wr => ∃ i : Nat, i ≤ n ∧ iv = .int .i64 i ∧ St W wr (star (Row 40 4 mv i (rsV ((rotG l kk).take i))) (star (Row 40 4 bv i (rsV (l.reverse.take i))) (star (IsRt rp l es) (star (pt qb (.cells #[kS xm, kS xp, kS xq, .int .i64 xv, .slice fa fn fc, kS xb, .bool xc] 24 (0, 0))) emp))))) (fun _ _ iv _ => n - (intOf iv).toNat)
      case atStart => exact ⟨0, Nat.zero_le _, rfl, (h3.nilRow (e := 40) (size := 4)).nilRow (e := 40) (size := 4)⟩
      case round =>
       as_aux_lemma =>
        obtain ⟨i, hi, rfl, hS⟩ := hrel
        obtain ⟨_, ma, mc, rfl, _⟩ := _root_.id hS.rowSl
        obtain ⟨_, ba, bc, rfl, _⟩ := _root_.id hS.right.rowSl
        clear h3
        by_cases hin : i < n
        · obtain ⟨hkN, hkk⟩ := HKK.out (by omega)
          have hmodN : (i + kk) % n < n := Nat.mod_lt _ (by omega)
          obtain ⟨y, hy⟩ : ∃ y, l[(i + kk) % n]? = some y := ⟨_, List.getElem?_eq_getElem (by rw [HN.out]; exact hmodN)⟩
          obtain ⟨z, hz⟩ : ∃ z, l[n - 1 - i]? = some z := ⟨_, List.getElem?_eq_getElem (by rw [HN.out]; omega)⟩
          have hyr : (rotG l kk)[i]? = some y := by rw [rotG_get l kk i (by rw [HN.out]; exact hkN) (by rw [HN.out]; exact hin), HN.out]; exact hy
          have hzr : l.reverse[i]? = some z := by rw [List.getElem?_reverse (by rw [HN.out]; exact hin), HN.out]; exact hz
          have HT1 : Hid (rsV ((rotG l kk).take (i + 1)) = rsV ((rotG l kk).take i) ++ rsV [y]) := Lib.hid (by rw [List.take_add_one, hyr, rsV_append]; rfl)
          have HT2 : Hid (rsV (l.reverse.take (i + 1)) = rsV (l.reverse.take i) ++ rsV [z]) := Lib.hid (by rw [List.take_add_one, hzr, rsV_append]; rfl)
          obtain ⟨ab, ao, rfl, hel1⟩ := elR HSL.out hy
          obtain ⟨ab', ao', e', hel2⟩ := elR HSL.out hz
          cases e'
          have HEL2 := Lib.hid hel2
          obtain ⟨ym, yp, yk, yt⟩ := y
          obtain ⟨zm, zp, zk, zt⟩ := z
          obtain ⟨e0, e1, e2, e3⟩ := hel1 _ _ hS
          dsimp only at e0 e1 e2 e3
          have hrem : Int.tmod ((i : Int) + (kk : Int)) (n : Int) = (((i + kk) % n : Nat) : Int) := by
            rw [Int.tmod_eq_emod_of_nonneg (by omega)]
            simp
          have hsub : (n : Int) - 1 - (i : Int) = ((n - 1 - i : Nat) : Int) := by omega
          have hN0 : ((n : Int) == 0) = false := by simp; omega
          generalize hI1 : (i + kk) % n = I1 at *
          generalize hI2 : n - 1 - i = I2 at *
          have hI2N : I2 < n := by omega
          clear hyr hzr hy hz hel1 hel2 hI1 hI2
          have hk1 : -(n : Int) < Int.tmod turn n := by
            have := Int.lt_tmod_of_pos turn (show (0 : Int) < n by omega)
            omega
          have hk2 : Int.tmod turn n < n := Int.tmod_lt_of_pos turn (by omega)
          have h4 := hS.alloc (.cells #[kS ym, kS yp, .int .i64 yk, kS yt] 40)
          have hone1 : Sl (wr.alloc (.cells #[kS ym, kS yp, .int .i64 yk, kS yt] 40)) 4 (.slice (some ⟨wr.heap.size, 0, none⟩) 1 1) 1 (rsV [⟨ym, yp, yk, yt⟩]) := (St.mkRow (size := 4) (n := 1) (cap := 1) (xs := rsV [⟨ym, yp, yk, yt⟩]) h4 (Nat.le_refl _) (by unfold maxLen; omega) rfl rfl).rowSl
          have h5 := h4.right
          clear h4
          have hend : ∀ mv' bv' w', St W w' (star (Row 40 4 mv' (i + 1) (rsV ((rotG l kk).take i) ++ rsV [⟨ym, yp, yk, yt⟩])) (star (Row 40 4 bv' (i + 1) (rsV (l.reverse.take i) ++ rsV [⟨zm, zp, zk, zt⟩])) (star (IsRt rp l es) (star (pt qb (.cells #[kS xm, kS xp, kS xq, .int .i64 xv, .slice fa fn fc, kS xb, .bool xc] 24 (0, 0))) emp)))) → St W w' (star (Row 40 4 mv' (i + 1) (rsV ((rotG l kk).take (i + 1)))) (star (Row 40 4 bv' (i + 1) (rsV (l.reverse.take (i + 1)))) (star (IsRt rp l es) (star (pt qb (.cells #[kS xm, kS xp, kS xq, .int .i64 xv, .slice fa fn fc, kS xb, .bool xc] 24 (0, 0))) emp)))) := fun mv' bv' w' h => by rw [HT1.out, HT2.out]; exact h
          have HEND := Lib.hid hend
          clear hend
          rcases hkk with ⟨hk0, hke⟩ | ⟨hk0, hke⟩
          · have hdk : decide (Int.tmod turn n < 0) = true := decide_eq_true hk0
            clear hk0
            go_wp2_with (at_builtin; refine wpList_append_Sl rfl (.tmp 55) (.tmp 65) 33 rfl 40 i0 zR 4 56 U hi0 hz0 hz1 hz2 rfl _ i (rsV ((rotG l kk).take i)) rfl h5 _ 1 (rsV [⟨ym, yp, yk, yt⟩]) rfl hone1 (rsV_one _) (by unfold maxLen; omega) ?_ ?_)
            · omega
            intro v6 w6 h6 _
            have h7 := h6.swap
            obtain ⟨g0, g1, g2, g3⟩ := HEL2.out _ _ h7
            have h8 := h7.alloc (.cells #[kS zm, kS zp, .int .i64 zk, kS zt] 40)
            have hone2 : Sl (w6.alloc (.cells #[kS zm, kS zp, .int .i64 zk, kS zt] 40)) 4 (.slice (some ⟨w6.heap.size, 0, none⟩) 1 1) 1 (rsV [⟨zm, zp, zk, zt⟩]) := (St.mkRow (size := 4) (n := 1) (cap := 1) (xs := rsV [⟨zm, zp, zk, zt⟩]) h8 (Nat.le_refl _) (by unfold maxLen; omega) rfl rfl).rowSl
            have h9 := h8.right
            clear h5 h6 h7 h8 hone1 e0 e1 e2 e3
            go_wp2_with (at_builtin; refine wpList_append_Sl rfl (.tmp 67) (.tmp 76) 33 rfl 40 i0 zR 4 56 U hi0 hz0 hz1 hz2 rfl _ i (rsV (l.reverse.take i)) rfl h9 _ 1 (rsV [⟨zm, zp, zk, zt⟩]) rfl hone2 (rsV_one _) (by unfold maxLen; omega) (by omega) ?_; intro v10 w10 h10 _)
            exact ⟨⟨i + 1, hin, by go_num, HEND.out _ _ _ (h10.eq (by ac_rfl))⟩, by simp [intOf]; omega⟩
          · have hdk : decide ((kk : Int) < 0) = false := decide_eq_false (by omega)
            clear hk0 hk1 hk2
            go_wp2_with (at_builtin; refine wpList_append_Sl rfl (.tmp 55) (.tmp 65) 33 rfl 40 i0 zR 4 56 U hi0 hz0 hz1 hz2 rfl _ i (rsV ((rotG l kk).take i)) rfl h5 _ 1 (rsV [⟨ym, yp, yk, yt⟩]) rfl hone1 (rsV_one _) (by unfold maxLen; omega) ?_ ?_)
            · omega
            intro v6 w6 h6 _
            have h7 := h6.swap
            obtain ⟨g0, g1, g2, g3⟩ := HEL2.out _ _ h7
            have h8 := h7.alloc (.cells #[kS zm, kS zp, .int .i64 zk, kS zt] 40)
            have hone2 : Sl (w6.alloc (.cells #[kS zm, kS zp, .int .i64 zk, kS zt] 40)) 4 (.slice (some ⟨w6.heap.size, 0, none⟩) 1 1) 1 (rsV [⟨zm, zp, zk, zt⟩]) := (St.mkRow (size := 4) (n := 1) (cap := 1) (xs := rsV [⟨zm, zp, zk, zt⟩]) h8 (Nat.le_refl _) (by unfold maxLen; omega) rfl rfl).rowSl
            have h9 := h8.right
            clear h5 h6 h7 h8 hone1 e0 e1 e2 e3
            go_wp2_with (at_builtin; refine wpList_append_Sl rfl (.tmp 67) (.tmp 76) 33 rfl 40 i0 zR 4 56 U hi0 hz0 hz1 hz2 rfl _ i (rsV (l.reverse.take i)) rfl h9 _ 1 (rsV [⟨zm, zp, zk, zt⟩]) rfl hone2 (rsV_one _) (by unfold maxLen; omega) (by omega) ?_; intro v10 w10 h10 _)
            exact ⟨⟨i + 1, hin, by go_num, HEND.out _ _ _ (h10.eq (by ac_rfl))⟩, by simp [intOf]; omega⟩
        · obtain rfl : n = i := by omega
          have e1 : l.reverse.take n = l.reverse := List.take_of_length_le (by rw [List.length_reverse, HN.out]; exact Nat.le_refl _)
          have e2 : (rotG l kk).take n = rotG l kk := List.take_of_length_le (by rw [(rotG_perm l kk).length_eq, HN.out]; exact Nat.le_refl _)
          rw [e1, e2] at hS
          have HP1 := Lib.hid (rotG_perm l kk)
          have HP2 := Lib.hid (List.reverse_perm l)
          generalize rotG l kk = M1 at *
          generalize l.reverse = M2 at *
          have HL1 : Hid (M1.length = n) := Lib.hid (by rw [HP1.out.length_eq]; exact HN.out)
          have HL2 : Hid (M2.length = n) := Lib.hid (by rw [HP2.out.length_eq]; exact HN.out)
          have HLB1 : Hid (∀ r ∈ M1, r.m.length ≤ 1000 ∧ r.p.length ≤ 1000) := Lib.hid fun r hr => HLB.out r (HP1.out.mem_iff.1 hr)
          have HLB2 : Hid (∀ r ∈ M2, r.m.length ≤ 1000 ∧ r.p.length ≤ 1000) := Lib.hid fun r hr => HLB.out r (HP2.out.mem_iff.1 hr)
          have hN1 : newN M1 = 0 := (newN_ok (by rw [HL1.out]; exact hn32)).2 (makes_perm HP1.out HMK.out)
          have hN2 : newN M2 = 0 := (newN_ok (by rw [HL2.out]; exact hn32)).2 (makes_perm HP2.out HMK.out)
          have HNw1 := Lib.hid (New_any ma n mc M1 HL1.out (by omega) hS hS.rowSl HM.out (fun r hr => HLS.out r (HP1.out.mem_iff.1 hr)))
          have HR1 := Lib.hid (newN_ri hN1)
          have HR2 := Lib.hid (newN_ri hN2)
          have HQ1 := Lib.hid (serve_perm HRI.out HR1.out HP1.out ⟨xm, xp, xb⟩)
          have HQ2 := Lib.hid (serve_perm HRI.out HR2.out HP2.out ⟨xm, xp, xb⟩)
          have HN1 := Lib.hid hN1
          have HN2 := Lib.hid hN2
          obtain ⟨es1, hes1⟩ : ∃ es1, (newR [] M1).2 = es1 := ⟨_, rfl⟩
          obtain ⟨es2, hes2⟩ : ∃ es2, (newR [] M2).2 = es2 := ⟨_, rfl⟩
          rw [hes1] at HR1 HQ1
          rw [hes2] at HR2 HQ2
          have HES1 := Lib.hid hes1
          have HES2 := Lib.hid hes2
          clear e1 e2 hN1 hN2 hes1 hes2 HKK hin hi
          go_wp2_with fail
          refine HNw1.out.mono ?_
          rintro e w4 (⟨hne, -, -⟩ | ⟨-, up, rfl, h4⟩)
          · exact absurd HN1.out hne
          rw [HES1.out] at h4
          have h4 := h4.eq (B := star (Row 40 4 (.slice ba n bc) n (rsV M2)) (star (IsRt up M1 es1) (star (Row 40 4 (.slice ma n mc) n (rsV M1)) (star (IsRt rp l es) (star (pt qb (.cells #[kS xm, kS xp, kS xq, .int .i64 xv, .slice fa fn fc, kS xb, .bool xc] 24 (0, 0))) emp))))) (by ac_rfl)
          have HNw2 := Lib.hid (New_any ba n bc M2 HL2.out (by omega) h4 h4.rowSl HM.out (fun r hr => HLS.out r (HP2.out.mem_iff.1 hr)))
          clear HNw1 hS
          go_wp2_with fail
          refine HNw2.out.mono ?_
          rintro e w5 (⟨hne, -, -⟩ | ⟨-, vp, rfl, h5⟩)
          · exact absurd HN2.out hne
          rw [HES2.out] at h5
          have hcur : St W w5 (star (IsRt rp l es) (star (IsRt up M1 es1) (star (IsRt vp M2 es2) (star (pt qb (.cells #[kS xm, kS xp, kS xq, .int .i64 xv, .slice fa fn fc, kS xb, .bool xc] 24 (0, 0))) (emp))))) := (h5.eq (B := star (star (Row 40 4 (.slice ba n bc) n (rsV M2)) (Row 40 4 (.slice ma n mc) n (rsV M1))) (star (IsRt rp l es) (star (IsRt up M1 es1) (star (IsRt vp M2 es2) (star (pt qb (.cells #[kS xm, kS xp, kS xq, .int .i64 xv, .slice fa fn fc, kS xb, .bool xc] 24 (0, 0))) (emp)))))) (by ac_rfl)).right
          clear h4 h5 HNw2
          have hfl := serve_few es ⟨xm, xp, xb⟩
          obtain ⟨⟨⟨cd, fl, bd⟩, kd⟩, hx0⟩ : ∃ x, serveR es ⟨xm, xp, xb⟩ = x := ⟨_, rfl⟩
          rw [hx0] at hfl
          have HFL : Hid (fl.length ≤ 1) := Lib.hid hfl
          have HX0 := Lib.hid hx0
          have HX1 : Hid (serveR es1 ⟨xm, xp, xb⟩ = ((cd, fl, bd), kd)) := Lib.hid (by rw [HQ1.out, hx0])
          have HX2 : Hid (serveR es2 ⟨xm, xp, xb⟩ = ((cd, fl, bd), kd)) := Lib.hid (by rw [HQ2.out, hx0])
          clear hfl hx0
          have hs := hcur.eq (B := star (IsRt rp l es) (star (pt qb (.cells #[kS xm, kS xp, kS xq, .int .i64 xv, .slice fa fn fc, kS xb, .bool xc] 24 (0, 0))) (star (IsRt up M1 es1) (star (IsRt vp M2 es2) (emp))))) (by ac_rfl)
          have c0 := hs.right.cell 0 (v := kS xm) rfl
          have c1 := hs.right.cell 1 (v := kS xp) rfl
          have c2 := hs.right.cell 2 (v := kS xq) rfl
          have c3 := hs.right.cell 3 (v := .int .i64 xv) rfl
          have c4 := hs.right.cell 4 (v := .slice fa fn fc) rfl
          have c5 := hs.right.cell 5 (v := kS xb) rfl
          have c6 := hs.right.cell 6 (v := .bool xc) rfl
          have HSv := Lib.hid ((Serve_any rp l es hs HRI.out (by rw [HN.out]; omega) HLB.out HM.out (RtN.path_max HM.out) xm xp xq xv fa fn fc xb xc HXP.out).mono fun e w h => sv_any HX0.out h)
          clear hcur
          go_wp2_with fail
          refine HSv.out.mono ?_
          rintro e ws ⟨fa0, fn0, fc0, rfl, hfn0, hs2⟩
          have HFN0 := Lib.hid hfn0
          clear HSv hs hfn0 c0 c1 c2 c3 c4 c5 c6
          have hs3 := hs2.alloc (.cells #[.int .i64 cd, .slice fa0 fn0 fc0, kS bd] 29 (0, 0))
          obtain ⟨yb0, hyb⟩ : ∃ z, ws.heap.size = z := ⟨_, rfl⟩
          rw [hyb] at hs3
          go_upto_region 20 with fail
          clear hyb hs2
          generalize ws.alloc (.cells #[.int .i64 cd, .slice fa0 fn0 fc0, kS bd] 29 (0, 0)) = wt0 at *
          have hcur := hs3.eq (B := star (pt yb0 (.cells #[.int .i64 cd, .slice fa0 fn0 fc0, kS bd] 29 (0, 0))) (star (Row 43 2 (.slice fa0 fn0 fc0) fn0 (fldV fl)) (star (IsRt rp l es) (star (IsRt up M1 es1) (star (IsRt vp M2 es2) (star (pt qb (.cells #[kS xm, kS xp, kS xq, .int .i64 xv, .slice fa fn fc, kS xb, .bool xc] 24 (0, 0))) (emp))))))) (by ac_rfl)
          clear hs3
          have hs := hcur.eq (B := star (IsRt up M1 es1) (star (pt qb (.cells #[kS xm, kS xp, kS xq, .int .i64 xv, .slice fa fn fc, kS xb, .bool xc] 24 (0, 0))) (star (pt yb0 (.cells #[.int .i64 cd, .slice fa0 fn0 fc0, kS bd] 29 (0, 0))) (star (Row 43 2 (.slice fa0 fn0 fc0) fn0 (fldV fl)) (star (IsRt rp l es) (star (IsRt vp M2 es2) (emp))))))) (by ac_rfl)
          have c0 := hs.right.cell 0 (v := kS xm) rfl
          have c1 := hs.right.cell 1 (v := kS xp) rfl
          have c2 := hs.right.cell 2 (v := kS xq) rfl
          have c3 := hs.right.cell 3 (v := .int .i64 xv) rfl
          have c4 := hs.right.cell 4 (v := .slice fa fn fc) rfl
          have c5 := hs.right.cell 5 (v := kS xb) rfl
          have c6 := hs.right.cell 6 (v := .bool xc) rfl
          have HSv := Lib.hid ((Serve_any up M1 es1 hs HR1.out (by rw [HL1.out]; omega) HLB1.out HM.out (RtN.path_max HM.out) xm xp xq xv fa fn fc xb xc HXP.out).mono fun e w h => sv_any HX1.out h)
          clear hcur
          go_wp2_with fail
          refine HSv.out.mono ?_
          rintro e ws ⟨fa1, fn1, fc1, rfl, hfn1, hs2⟩
          have HFN1 := Lib.hid hfn1
          clear HSv hs hfn1 c0 c1 c2 c3 c4 c5 c6
          have hs3 := hs2.alloc (.cells #[.int .i64 cd, .slice fa1 fn1 fc1, kS bd] 29 (0, 0))
          obtain ⟨yb1, hyb⟩ : ∃ z, ws.heap.size = z := ⟨_, rfl⟩
          rw [hyb] at hs3
          go_upto_region 21 with fail
          clear hyb hs2
          generalize ws.alloc (.cells #[.int .i64 cd, .slice fa1 fn1 fc1, kS bd] 29 (0, 0)) = wt1 at *
          have hcur := hs3.eq (B := star (pt yb1 (.cells #[.int .i64 cd, .slice fa1 fn1 fc1, kS bd] 29 (0, 0))) (star (Row 43 2 (.slice fa1 fn1 fc1) fn1 (fldV fl)) (star (pt yb0 (.cells #[.int .i64 cd, .slice fa0 fn0 fc0, kS bd] 29 (0, 0))) (star (Row 43 2 (.slice fa0 fn0 fc0) fn0 (fldV fl)) (star (IsRt rp l es) (star (IsRt up M1 es1) (star (IsRt vp M2 es2) (star (pt qb (.cells #[kS xm, kS xp, kS xq, .int .i64 xv, .slice fa fn fc, kS xb, .bool xc] 24 (0, 0))) (emp))))))))) (by ac_rfl)
          clear hs3
          have hs := hcur.eq (B := star (IsRt vp M2 es2) (star (pt qb (.cells #[kS xm, kS xp, kS xq, .int .i64 xv, .slice fa fn fc, kS xb, .bool xc] 24 (0, 0))) (star (pt yb1 (.cells #[.int .i64 cd, .slice fa1 fn1 fc1, kS bd] 29 (0, 0))) (star (Row 43 2 (.slice fa1 fn1 fc1) fn1 (fldV fl)) (star (pt yb0 (.cells #[.int .i64 cd, .slice fa0 fn0 fc0, kS bd] 29 (0, 0))) (star (Row 43 2 (.slice fa0 fn0 fc0) fn0 (fldV fl)) (star (IsRt rp l es) (star (IsRt up M1 es1) (emp))))))))) (by ac_rfl)
          have c0 := hs.right.cell 0 (v := kS xm) rfl
          have c1 := hs.right.cell 1 (v := kS xp) rfl
          have c2 := hs.right.cell 2 (v := kS xq) rfl
          have c3 := hs.right.cell 3 (v := .int .i64 xv) rfl
          have c4 := hs.right.cell 4 (v := .slice fa fn fc) rfl
          have c5 := hs.right.cell 5 (v := kS xb) rfl
          have c6 := hs.right.cell 6 (v := .bool xc) rfl
          have HSv := Lib.hid ((Serve_any vp M2 es2 hs HR2.out (by rw [HL2.out]; omega) HLB2.out HM.out (RtN.path_max HM.out) xm xp xq xv fa fn fc xb xc HXP.out).mono fun e w h => sv_any HX2.out h)
          clear hcur
          go_wp2_with fail
          refine HSv.out.mono ?_
          rintro e ws ⟨fa2, fn2, fc2, rfl, hfn2, hs2⟩
          have HFN2 := Lib.hid hfn2
          clear HSv hs hfn2 c0 c1 c2 c3 c4 c5 c6
          have hs3 := hs2.alloc (.cells #[.int .i64 cd, .slice fa2 fn2 fc2, kS bd] 29 (0, 0))
          obtain ⟨yb2, hyb⟩ : ∃ z, ws.heap.size = z := ⟨_, rfl⟩
          rw [hyb] at hs3
          go_upto_region 22 with fail
          clear hyb hs2
          generalize ws.alloc (.cells #[.int .i64 cd, .slice fa2 fn2 fc2, kS bd] 29 (0, 0)) = wt2 at *
          have hcur := hs3.eq (B := star (pt yb2 (.cells #[.int .i64 cd, .slice fa2 fn2 fc2, kS bd] 29 (0, 0))) (star (Row 43 2 (.slice fa2 fn2 fc2) fn2 (fldV fl)) (star (pt yb1 (.cells #[.int .i64 cd, .slice fa1 fn1 fc1, kS bd] 29 (0, 0))) (star (Row 43 2 (.slice fa1 fn1 fc1) fn1 (fldV fl)) (star (pt yb0 (.cells #[.int .i64 cd, .slice fa0 fn0 fc0, kS bd] 29 (0, 0))) (star (Row 43 2 (.slice fa0 fn0 fc0) fn0 (fldV fl)) (star (IsRt rp l es) (star (IsRt up M1 es1) (star (IsRt vp M2 es2) (star (pt qb (.cells #[kS xm, kS xp, kS xq, .int .i64 xv, .slice fa fn fc, kS xb, .bool xc] 24 (0, 0))) (emp))))))))))) (by ac_rfl)
          clear hs3
          have k0 := (hcur.eq (B := star (pt yb0 (.cells #[.int .i64 cd, .slice fa0 fn0 fc0, kS bd] 29 (0, 0))) (star (pt yb2 (.cells #[.int .i64 cd, .slice fa2 fn2 fc2, kS bd] 29 (0, 0))) (star (Row 43 2 (.slice fa2 fn2 fc2) fn2 (fldV fl)) (star (pt yb1 (.cells #[.int .i64 cd, .slice fa1 fn1 fc1, kS bd] 29 (0, 0))) (star (Row 43 2 (.slice fa1 fn1 fc1) fn1 (fldV fl)) (star (Row 43 2 (.slice fa0 fn0 fc0) fn0 (fldV fl)) (star (IsRt rp l es) (star (IsRt up M1 es1) (star (IsRt vp M2 es2) (star (pt qb (.cells #[kS xm, kS xp, kS xq, .int .i64 xv, .slice fa fn fc, kS xb, .bool xc] 24 (0, 0))) (emp))))))))))) (by ac_rfl)).cell 0 (v := .int .i64 cd) rfl
          have k1 := (hcur.eq (B := star (pt yb0 (.cells #[.int .i64 cd, .slice fa0 fn0 fc0, kS bd] 29 (0, 0))) (star (pt yb2 (.cells #[.int .i64 cd, .slice fa2 fn2 fc2, kS bd] 29 (0, 0))) (star (Row 43 2 (.slice fa2 fn2 fc2) fn2 (fldV fl)) (star (pt yb1 (.cells #[.int .i64 cd, .slice fa1 fn1 fc1, kS bd] 29 (0, 0))) (star (Row 43 2 (.slice fa1 fn1 fc1) fn1 (fldV fl)) (star (Row 43 2 (.slice fa0 fn0 fc0) fn0 (fldV fl)) (star (IsRt rp l es) (star (IsRt up M1 es1) (star (IsRt vp M2 es2) (star (pt qb (.cells #[kS xm, kS xp, kS xq, .int .i64 xv, .slice fa fn fc, kS xb, .bool xc] 24 (0, 0))) (emp))))))))))) (by ac_rfl)).cell 1 (v := .slice fa0 fn0 fc0) rfl
          have k2 := (hcur.eq (B := star (pt yb0 (.cells #[.int .i64 cd, .slice fa0 fn0 fc0, kS bd] 29 (0, 0))) (star (pt yb2 (.cells #[.int .i64 cd, .slice fa2 fn2 fc2, kS bd] 29 (0, 0))) (star (Row 43 2 (.slice fa2 fn2 fc2) fn2 (fldV fl)) (star (pt yb1 (.cells #[.int .i64 cd, .slice fa1 fn1 fc1, kS bd] 29 (0, 0))) (star (Row 43 2 (.slice fa1 fn1 fc1) fn1 (fldV fl)) (star (Row 43 2 (.slice fa0 fn0 fc0) fn0 (fldV fl)) (star (IsRt rp l es) (star (IsRt up M1 es1) (star (IsRt vp M2 es2) (star (pt qb (.cells #[kS xm, kS xp, kS xq, .int .i64 xv, .slice fa fn fc, kS xb, .bool xc] 24 (0, 0))) (emp))))))))))) (by ac_rfl)).cell 2 (v := kS bd) rfl
          have q0 := (hcur.eq (B := star (pt yb1 (.cells #[.int .i64 cd, .slice fa1 fn1 fc1, kS bd] 29 (0, 0))) (star (pt yb2 (.cells #[.int .i64 cd, .slice fa2 fn2 fc2, kS bd] 29 (0, 0))) (star (Row 43 2 (.slice fa2 fn2 fc2) fn2 (fldV fl)) (star (Row 43 2 (.slice fa1 fn1 fc1) fn1 (fldV fl)) (star (pt yb0 (.cells #[.int .i64 cd, .slice fa0 fn0 fc0, kS bd] 29 (0, 0))) (star (Row 43 2 (.slice fa0 fn0 fc0) fn0 (fldV fl)) (star (IsRt rp l es) (star (IsRt up M1 es1) (star (IsRt vp M2 es2) (star (pt qb (.cells #[kS xm, kS xp, kS xq, .int .i64 xv, .slice fa fn fc, kS xb, .bool xc] 24 (0, 0))) (emp))))))))))) (by ac_rfl)).cell 0 (v := .int .i64 cd) rfl
          have q1 := (hcur.eq (B := star (pt yb1 (.cells #[.int .i64 cd, .slice fa1 fn1 fc1, kS bd] 29 (0, 0))) (star (pt yb2 (.cells #[.int .i64 cd, .slice fa2 fn2 fc2, kS bd] 29 (0, 0))) (star (Row 43 2 (.slice fa2 fn2 fc2) fn2 (fldV fl)) (star (Row 43 2 (.slice fa1 fn1 fc1) fn1 (fldV fl)) (star (pt yb0 (.cells #[.int .i64 cd, .slice fa0 fn0 fc0, kS bd] 29 (0, 0))) (star (Row 43 2 (.slice fa0 fn0 fc0) fn0 (fldV fl)) (star (IsRt rp l es) (star (IsRt up M1 es1) (star (IsRt vp M2 es2) (star (pt qb (.cells #[kS xm, kS xp, kS xq, .int .i64 xv, .slice fa fn fc, kS xb, .bool xc] 24 (0, 0))) (emp))))))))))) (by ac_rfl)).cell 1 (v := .slice fa1 fn1 fc1) rfl
          have q2 := (hcur.eq (B := star (pt yb1 (.cells #[.int .i64 cd, .slice fa1 fn1 fc1, kS bd] 29 (0, 0))) (star (pt yb2 (.cells #[.int .i64 cd, .slice fa2 fn2 fc2, kS bd] 29 (0, 0))) (star (Row 43 2 (.slice fa2 fn2 fc2) fn2 (fldV fl)) (star (Row 43 2 (.slice fa1 fn1 fc1) fn1 (fldV fl)) (star (pt yb0 (.cells #[.int .i64 cd, .slice fa0 fn0 fc0, kS bd] 29 (0, 0))) (star (Row 43 2 (.slice fa0 fn0 fc0) fn0 (fldV fl)) (star (IsRt rp l es) (star (IsRt up M1 es1) (star (IsRt vp M2 es2) (star (pt qb (.cells #[kS xm, kS xp, kS xq, .int .i64 xv, .slice fa fn fc, kS xb, .bool xc] 24 (0, 0))) (emp))))))))))) (by ac_rfl)).cell 2 (v := kS bd) rfl
          have hS0 := (hcur.eq (B := star (Row 43 2 (.slice fa0 fn0 fc0) fn0 (fldV fl)) (star (pt yb2 (.cells #[.int .i64 cd, .slice fa2 fn2 fc2, kS bd] 29 (0, 0))) (star (Row 43 2 (.slice fa2 fn2 fc2) fn2 (fldV fl)) (star (pt yb1 (.cells #[.int .i64 cd, .slice fa1 fn1 fc1, kS bd] 29 (0, 0))) (star (Row 43 2 (.slice fa1 fn1 fc1) fn1 (fldV fl)) (star (pt yb0 (.cells #[.int .i64 cd, .slice fa0 fn0 fc0, kS bd] 29 (0, 0))) (star (IsRt rp l es) (star (IsRt up M1 es1) (star (IsRt vp M2 es2) (star (pt qb (.cells #[kS xm, kS xp, kS xq, .int .i64 xv, .slice fa fn fc, kS xb, .bool xc] 24 (0, 0))) (emp))))))))))) (by ac_rfl)).rowSl
          have hS1 := (hcur.eq (B := star (Row 43 2 (.slice fa1 fn1 fc1) fn1 (fldV fl)) (star (pt yb2 (.cells #[.int .i64 cd, .slice fa2 fn2 fc2, kS bd] 29 (0, 0))) (star (Row 43 2 (.slice fa2 fn2 fc2) fn2 (fldV fl)) (star (pt yb1 (.cells #[.int .i64 cd, .slice fa1 fn1 fc1, kS bd] 29 (0, 0))) (star (pt yb0 (.cells #[.int .i64 cd, .slice fa0 fn0 fc0, kS bd] 29 (0, 0))) (star (Row 43 2 (.slice fa0 fn0 fc0) fn0 (fldV fl)) (star (IsRt rp l es) (star (IsRt up M1 es1) (star (IsRt vp M2 es2) (star (pt qb (.cells #[kS xm, kS xp, kS xq, .int .i64 xv, .slice fa fn fc, kS xb, .bool xc] 24 (0, 0))) (emp))))))))))) (by ac_rfl)).rowSl
          have HSm := Lib.hid (Same_any _ cd fa0 fn0 fc0 fl bd cd fa1 fn1 fc1 fl bd HFN0.out HFN1.out (by have := HFN0.out; have := HFL.out; omega) hS0 hS1)
          rw [same_true] at HSm
          clear hS0 hS1
          go_wp2_with fail
          refine HSm.out.mono ?_
          rintro e wu hqu
          have hcur2 := hcur.makes hqu
          obtain ⟨rfl, -⟩ := hqu
          clear HSm hcur k0 k1 k2 q0 q1 q2
          have k0 := (hcur2.eq (B := star (pt yb0 (.cells #[.int .i64 cd, .slice fa0 fn0 fc0, kS bd] 29 (0, 0))) (star (pt yb2 (.cells #[.int .i64 cd, .slice fa2 fn2 fc2, kS bd] 29 (0, 0))) (star (Row 43 2 (.slice fa2 fn2 fc2) fn2 (fldV fl)) (star (pt yb1 (.cells #[.int .i64 cd, .slice fa1 fn1 fc1, kS bd] 29 (0, 0))) (star (Row 43 2 (.slice fa1 fn1 fc1) fn1 (fldV fl)) (star (Row 43 2 (.slice fa0 fn0 fc0) fn0 (fldV fl)) (star (IsRt rp l es) (star (IsRt up M1 es1) (star (IsRt vp M2 es2) (star (pt qb (.cells #[kS xm, kS xp, kS xq, .int .i64 xv, .slice fa fn fc, kS xb, .bool xc] 24 (0, 0))) (emp))))))))))) (by ac_rfl)).cell 0 (v := .int .i64 cd) rfl
          have k1 := (hcur2.eq (B := star (pt yb0 (.cells #[.int .i64 cd, .slice fa0 fn0 fc0, kS bd] 29 (0, 0))) (star (pt yb2 (.cells #[.int .i64 cd, .slice fa2 fn2 fc2, kS bd] 29 (0, 0))) (star (Row 43 2 (.slice fa2 fn2 fc2) fn2 (fldV fl)) (star (pt yb1 (.cells #[.int .i64 cd, .slice fa1 fn1 fc1, kS bd] 29 (0, 0))) (star (Row 43 2 (.slice fa1 fn1 fc1) fn1 (fldV fl)) (star (Row 43 2 (.slice fa0 fn0 fc0) fn0 (fldV fl)) (star (IsRt rp l es) (star (IsRt up M1 es1) (star (IsRt vp M2 es2) (star (pt qb (.cells #[kS xm, kS xp, kS xq, .int .i64 xv, .slice fa fn fc, kS xb, .bool xc] 24 (0, 0))) (emp))))))))))) (by ac_rfl)).cell 1 (v := .slice fa0 fn0 fc0) rfl
          have k2 := (hcur2.eq (B := star (pt yb0 (.cells #[.int .i64 cd, .slice fa0 fn0 fc0, kS bd] 29 (0, 0))) (star (pt yb2 (.cells #[.int .i64 cd, .slice fa2 fn2 fc2, kS bd] 29 (0, 0))) (star (Row 43 2 (.slice fa2 fn2 fc2) fn2 (fldV fl)) (star (pt yb1 (.cells #[.int .i64 cd, .slice fa1 fn1 fc1, kS bd] 29 (0, 0))) (star (Row 43 2 (.slice fa1 fn1 fc1) fn1 (fldV fl)) (star (Row 43 2 (.slice fa0 fn0 fc0) fn0 (fldV fl)) (star (IsRt rp l es) (star (IsRt up M1 es1) (star (IsRt vp M2 es2) (star (pt qb (.cells #[kS xm, kS xp, kS xq, .int .i64 xv, .slice fa fn fc, kS xb, .bool xc] 24 (0, 0))) (emp))))))))))) (by ac_rfl)).cell 2 (v := kS bd) rfl
          have q0 := (hcur2.eq (B := star (pt yb2 (.cells #[.int .i64 cd, .slice fa2 fn2 fc2, kS bd] 29 (0, 0))) (star (Row 43 2 (.slice fa2 fn2 fc2) fn2 (fldV fl)) (star (pt yb1 (.cells #[.int .i64 cd, .slice fa1 fn1 fc1, kS bd] 29 (0, 0))) (star (Row 43 2 (.slice fa1 fn1 fc1) fn1 (fldV fl)) (star (pt yb0 (.cells #[.int .i64 cd, .slice fa0 fn0 fc0, kS bd] 29 (0, 0))) (star (Row 43 2 (.slice fa0 fn0 fc0) fn0 (fldV fl)) (star (IsRt rp l es) (star (IsRt up M1 es1) (star (IsRt vp M2 es2) (star (pt qb (.cells #[kS xm, kS xp, kS xq, .int .i64 xv, .slice fa fn fc, kS xb, .bool xc] 24 (0, 0))) (emp))))))))))) (by ac_rfl)).cell 0 (v := .int .i64 cd) rfl
          have q1 := (hcur2.eq (B := star (pt yb2 (.cells #[.int .i64 cd, .slice fa2 fn2 fc2, kS bd] 29 (0, 0))) (star (Row 43 2 (.slice fa2 fn2 fc2) fn2 (fldV fl)) (star (pt yb1 (.cells #[.int .i64 cd, .slice fa1 fn1 fc1, kS bd] 29 (0, 0))) (star (Row 43 2 (.slice fa1 fn1 fc1) fn1 (fldV fl)) (star (pt yb0 (.cells #[.int .i64 cd, .slice fa0 fn0 fc0, kS bd] 29 (0, 0))) (star (Row 43 2 (.slice fa0 fn0 fc0) fn0 (fldV fl)) (star (IsRt rp l es) (star (IsRt up M1 es1) (star (IsRt vp M2 es2) (star (pt qb (.cells #[kS xm, kS xp, kS xq, .int .i64 xv, .slice fa fn fc, kS xb, .bool xc] 24 (0, 0))) (emp))))))))))) (by ac_rfl)).cell 1 (v := .slice fa2 fn2 fc2) rfl
          have q2 := (hcur2.eq (B := star (pt yb2 (.cells #[.int .i64 cd, .slice fa2 fn2 fc2, kS bd] 29 (0, 0))) (star (Row 43 2 (.slice fa2 fn2 fc2) fn2 (fldV fl)) (star (pt yb1 (.cells #[.int .i64 cd, .slice fa1 fn1 fc1, kS bd] 29 (0, 0))) (star (Row 43 2 (.slice fa1 fn1 fc1) fn1 (fldV fl)) (star (pt yb0 (.cells #[.int .i64 cd, .slice fa0 fn0 fc0, kS bd] 29 (0, 0))) (star (Row 43 2 (.slice fa0 fn0 fc0) fn0 (fldV fl)) (star (IsRt rp l es) (star (IsRt up M1 es1) (star (IsRt vp M2 es2) (star (pt qb (.cells #[kS xm, kS xp, kS xq, .int .i64 xv, .slice fa fn fc, kS xb, .bool xc] 24 (0, 0))) (emp))))))))))) (by ac_rfl)).cell 2 (v := kS bd) rfl
          have hS0 := (hcur2.eq (B := star (Row 43 2 (.slice fa0 fn0 fc0) fn0 (fldV fl)) (star (pt yb2 (.cells #[.int .i64 cd, .slice fa2 fn2 fc2, kS bd] 29 (0, 0))) (star (Row 43 2 (.slice fa2 fn2 fc2) fn2 (fldV fl)) (star (pt yb1 (.cells #[.int .i64 cd, .slice fa1 fn1 fc1, kS bd] 29 (0, 0))) (star (Row 43 2 (.slice fa1 fn1 fc1) fn1 (fldV fl)) (star (pt yb0 (.cells #[.int .i64 cd, .slice fa0 fn0 fc0, kS bd] 29 (0, 0))) (star (IsRt rp l es) (star (IsRt up M1 es1) (star (IsRt vp M2 es2) (star (pt qb (.cells #[kS xm, kS xp, kS xq, .int .i64 xv, .slice fa fn fc, kS xb, .bool xc] 24 (0, 0))) (emp))))))))))) (by ac_rfl)).rowSl
          have hS2 := (hcur2.eq (B := star (Row 43 2 (.slice fa2 fn2 fc2) fn2 (fldV fl)) (star (pt yb2 (.cells #[.int .i64 cd, .slice fa2 fn2 fc2, kS bd] 29 (0, 0))) (star (pt yb1 (.cells #[.int .i64 cd, .slice fa1 fn1 fc1, kS bd] 29 (0, 0))) (star (Row 43 2 (.slice fa1 fn1 fc1) fn1 (fldV fl)) (star (pt yb0 (.cells #[.int .i64 cd, .slice fa0 fn0 fc0, kS bd] 29 (0, 0))) (star (Row 43 2 (.slice fa0 fn0 fc0) fn0 (fldV fl)) (star (IsRt rp l es) (star (IsRt up M1 es1) (star (IsRt vp M2 es2) (star (pt qb (.cells #[kS xm, kS xp, kS xq, .int .i64 xv, .slice fa fn fc, kS xb, .bool xc] 24 (0, 0))) (emp))))))))))) (by ac_rfl)).rowSl
          have HSm := Lib.hid (Same_any _ cd fa0 fn0 fc0 fl bd cd fa2 fn2 fc2 fl bd HFN0.out HFN2.out (by have := HFN0.out; have := HFL.out; omega) hS0 hS2)
          rw [same_true] at HSm
          clear hS0 hS2
          go_wp2_with fail
          refine HSm.out.mono ?_
          rintro e wv hqv
          have hcur3 := hcur2.makes hqv
          obtain ⟨rfl, -⟩ := hqv
          have HWk := Lib.hid (wakes_any HM.out (RtN.path_max HM.out) hcur3)
          clear HSm hcur2 k0 k1 k2 q0 q1 q2
          go_wp2_with fail
          refine HWk.out.mono ?_
          rintro e wx ⟨rfl, hx⟩
          go_wp2
          go_ret
          exact ⟨rfl, (hx.eq (B := star (star (pt yb2 (.cells #[.int .i64 cd, .slice fa2 fn2 fc2, kS bd] 29 (0, 0))) (star (Row 43 2 (.slice fa2 fn2 fc2) fn2 (fldV fl)) (star (pt yb1 (.cells #[.int .i64 cd, .slice fa1 fn1 fc1, kS bd] 29 (0, 0))) (star (Row 43 2 (.slice fa1 fn1 fc1) fn1 (fldV fl)) (star (pt yb0 (.cells #[.int .i64 cd, .slice fa0 fn0 fc0, kS bd] 29 (0, 0))) (star (Row 43 2 (.slice fa0 fn0 fc0) fn0 (fldV fl)) (star (IsRt rp l es) (star (IsRt up M1 es1) (star (IsRt vp M2 es2) (star (pt qb (.cells #[kS xm, kS xp, kS xq, .int .i64 xv, .slice fa fn fc, kS xb, .bool xc] 24 (0, 0))) (emp))))))))))) emp) (by simp only [star_emp])).right⟩
end Go.Proofs.YtlofiaaacepgmaaGreatDoor.RtO
