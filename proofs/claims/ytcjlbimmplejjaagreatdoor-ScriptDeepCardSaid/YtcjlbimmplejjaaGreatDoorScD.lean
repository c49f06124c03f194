import Derived.Test.YtcjlbimmplejjaaGreatDoorScG
namespace Go.Proofs.YtcjlbimmplejjaaGreatDoor.ScD
open Go Go.RowKit Go.Proofs Go.Proofs.YtcjlbimmplejjaaGreatDoor.Sep Go.Proofs.YtcjlbimmplejjaaGreatDoor.Reg Go.Proofs.YtcjlbimmplejjaaGreatDoor.Frame Go.Proofs.YtcjlbimmplejjaaGreatDoor.Mp Go.Proofs.YtcjlbimmplejjaaGreatDoor.WdP Go.Proofs.YtcjlbimmplejjaaGreatDoor.WdT Go.Proofs.YtcjlbimmplejjaaGreatDoor.WdN Go.Proofs.YtcjlbimmplejjaaGreatDoor.ScP Go.Proofs.YtcjlbimmplejjaaGreatDoor.ScQ Go.Proofs.YtcjlbimmplejjaaGreatDoor.ScT Go.Proofs.YtcjlbimmplejjaaGreatDoor.ScA Go.Proofs.YtcjlbimmplejjaaGreatDoor.ScE Go.Proofs.YtcjlbimmplejjaaGreatDoor.ScX Go.Proofs.YtcjlbimmplejjaaGreatDoor.ScM Go.Proofs.YtcjlbimmplejjaaGreatDoor.ScS Go.Proofs.YtcjlbimmplejjaaGreatDoor.ScL Go.Proofs.YtcjlbimmplejjaaGreatDoor.ScC Go.Proofs.YtcjlbimmplejjaaGreatDoor.ScG Go.Proofs.YtcjlbimmplejjaaGreatDoor.Slc Go.Proofs.YtcjlbimmplejjaaGreatDoor.Held Go.Proofs.YtcjlbimmplejjaaGreatDoor.HeldG

theorem lp_nil {st : List Blk} {s : Tx} {n : Nat} (h : wd s = []) : lineP st s n = some st := by unfold lineP; rw [if_pos h]
theorem lp_t0 {st : List Blk} {s : Tx} {n : Nat} (h : wd s = wTimes) (h2 : numM 1000 (wd (rs s)) = none) : lineP st s n = none := by
  unfold lineP; rw [h, if_neg (by decide), if_pos rfl, h2]
theorem lp_t1 {st : List Blk} {s : Tx} {n k : Nat} (h : wd s = wTimes) (h2 : numM 1000 (wd (rs s)) = some k) (h3 : bl (rs (rs s)) = []) (h4 : st.length ≤ 8) : lineP st s n = some (⟨[], 0, k, n⟩ :: st) := by
  unfold lineP; rw [h, if_neg (by decide), if_pos rfl, h2]; simp only; rw [if_pos ⟨h3, h4⟩]
theorem lp_t2 {st : List Blk} {s : Tx} {n k : Nat} (h : wd s = wTimes) (h2 : numM 1000 (wd (rs s)) = some k) (h3 : ¬(bl (rs (rs s)) = [] ∧ st.length ≤ 8)) : lineP st s n = none := by
  unfold lineP; rw [h, if_neg (by decide), if_pos rfl, h2]; simp only; rw [if_neg h3]
theorem lp_e0 {b : Blk} {s : Tx} {n : Nat} (h : wd s = wEnd) : lineP [b] s n = none := by
  unfold lineP; rw [h, if_neg (by decide), if_neg (by decide), if_pos rfl]
theorem lp_e1 {b c : Blk} {q : List Blk} {s : Tx} {n : Nat} (h : wd s = wEnd) (h2 : bl (rs s) = []) : lineP (b :: c :: q) s n = some (addB c b.l b.many b.times :: q) := by
  unfold lineP; rw [h, if_neg (by decide), if_neg (by decide), if_pos rfl]; simp only; rw [if_pos h2]
theorem lp_e2 {b c : Blk} {q : List Blk} {s : Tx} {n : Nat} (h : wd s = wEnd) (h2 : ¬ bl (rs s) = []) : lineP (b :: c :: q) s n = none := by
  unfold lineP; rw [h, if_neg (by decide), if_neg (by decide), if_pos rfl]; simp only; rw [if_neg h2]
theorem lp_a0 {st : List Blk} {s : Tx} {n : Nat} (h0 : wd s ≠ []) (h1 : wd s ≠ wTimes) (h2 : wd s ≠ wEnd) (h3 : actP (wd s) (rs s) = none) : lineP st s n = none := by
  unfold lineP; rw [if_neg h0, if_neg h1, if_neg h2, h3]
theorem lp_a1 {b : Blk} {q : List Blk} {s : Tx} {n : Nat} {x : Ac} (h0 : wd s ≠ []) (h1 : wd s ≠ wTimes) (h2 : wd s ≠ wEnd) (h3 : actP (wd s) (rs s) = some x) : lineP (b :: q) s n = some (addB b [x] 1 1 :: q) := by
  unfold lineP; rw [if_neg h0, if_neg h1, if_neg h2, h3]
def TC (ob oo : Nat) (bv : Value) (b : Blk) (w : World) : Prop := w.cell? ⟨ob, oo, none⟩ = some bv ∧ w.cell? ⟨ob, oo + 1, none⟩ = some (.int .i64 (b.many : Nat)) ∧ w.cell? ⟨ob, oo + 2, none⟩ = some (.int .i64 (b.times : Nat))
def tr15 : Tr := .plain 0 (.plain 1 (.plain 2 (.plain 3 (.plain 4 (.plain 5 (.plain 6 (.plain 7 (.held 8 (.plain 9 (.plain 10 (.plain 11 (.held 12 (.plain 13 (.plain 14 (.plain 15 (.held 16 (.one 17 (.done))))))))))))))))))
/-- The cells of the block that stands last. -/
theorem top_cells {cur : Array Value} {pre : List (Blk × Value)} {b : Blk} {bv : Value} {P : Nat} (hP : pre.length = P) (hct : cur.toList.take ((P + 1) * 4) = blV (pre ++ [(b, bv)])) :
    cur[P * 4]? = some bv ∧ cur[P * 4 + 1]? = some (.int .i64 (b.many : Nat)) ∧ cur[P * 4 + 2]? = some (.int .i64 (b.times : Nat)) ∧ cur[P * 4 + 3]? = some (.int .i64 (b.line : Nat)) := by
  have key : ∀ j, j < 4 → ∀ v, (blE (b, bv))[j]? = some v → cur[P * 4 + j]? = some v := fun j hj v hv => by
    have g := flatMap_get (E := blE) (size := 4) (fun _ => rfl) (pre ++ [(b, bv)]) P (b, bv) (by rw [← hP]; simp) j hj
    have g2 : (cur.toList.take ((P + 1) * 4))[P * 4 + j]? = some v := by rw [hct]; exact g.trans hv
    rw [List.getElem?_take_of_lt (by omega), Array.getElem?_toList] at g2
    exact g2
  exact ⟨key 0 (by omega) _ rfl, key 1 (by omega) _ rfl, key 2 (by omega) _ rfl, key 3 (by omega) _ rfl⟩
theorem pre_cells {cur : Array Value} {q post : List (Blk × Value)} {c : Blk} {cv : Value} {Q n : Nat} (hQ : q.length = Q) (hn : Q < n) (hct : cur.toList.take (n * 4) = blV (q ++ (c, cv) :: post)) :
    cur[Q * 4]? = some cv ∧ cur[Q * 4 + 1]? = some (.int .i64 (c.many : Nat)) := by
  have key : ∀ j, j < 4 → ∀ v, (blE (c, cv))[j]? = some v → cur[Q * 4 + j]? = some v := fun j hj v hv => by
    have g := flatMap_get (E := blE) (size := 4) (fun _ => rfl) (q ++ (c, cv) :: post) Q (c, cv) (by rw [← hQ]; simp) j hj
    have g2 : (cur.toList.take (n * 4))[Q * 4 + j]? = some v := by rw [hct]; exact g.trans hv
    rw [List.getElem?_take_of_lt (by omega), Array.getElem?_toList] at g2
    exact g2
  exact ⟨key 0 (by omega) _ rfl, key 1 (by omega) _ rfl⟩
def LPst (W : World) (R : Asn) (mb : Nat) (st : List Blk) (s : Tx) (n : Nat) (e : Ending) (w' : World) : Prop :=
  ∃ (ov' : Value) (bb : Bool), e = .returned (.tuple #[ov', .bool bb]) ∧ ((∃ ms' : List (Blk × Value), lineP st s n = some (stk ms') ∧ bb = true ∧ St W w' (star (Row 52 4 ov' ms'.length (blV ms')) (star (Bks ms') (star (Mp kS mb shM) (R))))) ∨ (lineP st s n = none ∧ bb = false ∧ St W w' R))
set_option maxRecDepth 100000 in
set_option maxHeartbeats 16000000 in
theorem line_any {W w : World} {R : Asn} (hG : Gl W) (hE : Er W) (mb : Nat) (ov : Value) (pre : List (Blk × Value)) (b : Blk) (bv : Value) (s : Tx) (n : Nat) (hs : s.length ≤ 1000000) (P : Nat) (hP : pre.length = P) (hpl : P ≤ 9)
    (hok : ∀ x ∈ pre ++ [(b, bv)], OkB x.1) (h : St W w (star (Row 52 4 ov (P + 1) (blV (pre ++ [(b, bv)]))) (star (Bks (pre ++ [(b, bv)])) (star (Mp kS mb shM) (R))))) :
    Calls Tryz.prog 25 #[ov, .map (some mb), .string ⟨s.toArray⟩, .int .i64 (n : Nat)] w (LPst W R mb (stk (pre ++ [(b, bv)])) s n) := by
  obtain ⟨-, hrow⟩ := h.row
  rcases hrow with ⟨-, h0, -, -⟩ | ⟨ob, cap, cur, rfl, hcap, hmx, hcs, hct, hS⟩
  · cases h0
  have HOK := Lib.hid hok
  have HSZ := Lib.hid (And.intro hcs (And.intro hct hmx))
  have HG := Lib.hid hG
  have HE := Lib.hid hE
  have hstl : (stk (pre ++ [(b, bv)])).length = P + 1 := by rw [stk_len, List.length_append, hP]; rfl
  have htop : stk (pre ++ [(b, bv)]) = b :: stk pre := stk_top pre (b, bv)
  have HST := Lib.hid hstl
  have HTOP := Lib.hid htop
  have HP := Lib.hid hP
  clear hstl htop hP
  have hrl := rs_le s
  have h1 := hS.alloc (.cells #[.string ⟨s.toArray⟩, .bool true] 91 (0, 0))
  obtain ⟨rb, hrb⟩ : ∃ z, w.heap.size = z := ⟨_, rfl⟩
  rw [hrb] at h1
  have HWd := Lib.hid fun w1 (h : St W w1 (star (pt rb (.cells #[.string ⟨s.toArray⟩, .bool true] 91 (0, 0))) (star (pt ob (.cells cur 52 (0, 0))) (star (Bks (pre ++ [(b, bv)])) (star (Mp kS mb shM) (R)))))) => word_any HG.out rb s true hs h
  obtain ⟨z, hz⟩ : ∃ z, wd s = z := ⟨_, rfl⟩
  obtain ⟨y, hy⟩ : ∃ y, rs s = y := ⟨_, rfl⟩
  rw [hz, hy] at HWd
  have HZ := Lib.hid hz
  have HY := Lib.hid hy
  rw [hy] at hrl
  clear h hS hcs hct hmx hok hG hE hz hy
  go_enter Tryz.func25, Tryz.ntmps25
  go_upto_region 2 with fail
  clear hrb
  generalize w.alloc (.cells #[.string ⟨s.toArray⟩, .bool true] 91 (0, 0)) = w1 at *
  have HW1 := Lib.hid (HWd.out _ h1)
  clear h1 HWd
  go_wp2_with fail
  refine HW1.out.mono ?_
  rintro e w2 ⟨rfl, h2⟩
  clear HW1
  by_cases z0 : z = []
  · subst z0
    have HN : Hid (lineP (stk (pre ++ [(b, bv)])) s n = some (stk (pre ++ [(b, bv)]))) := Lib.hid (lp_nil HZ.out)
    have hrow := St.mkRow h2.right hcap HSZ.out.2.2 HSZ.out.1 HSZ.out.2.1
    have HR := Lib.hid hrow
    clear h2 hrow
    go_wp2
    go_ret2
    refine ⟨_, true, rfl, .inl ⟨pre ++ [(b, bv)], HN.out, rfl, ?_⟩⟩
    rw [List.length_append, HP.out]
    exact HR.out
  have d0 : (z == []) = false := by rw [beq_eq_false_iff_ne]; exact z0
  by_cases z1 : z = wTimes
  · subst z1
    obtain ⟨i0, hi0, hy0, hy1, hy2⟩ := info_parts infoBk
    have HNu := Lib.hid (number_any HG.out HE.out rb y true 1000 (by omega) (by omega) h2)
    clear h2
    go_wp2_with fail
    refine HNu.out.mono ?_
    rintro e w3 ⟨v, bo, rfl, h3, hc⟩
    have HC := Lib.hid hc
    clear hc HNu
    have h4 := (St.mkRow (size := 4) (n := P + 1) (h3.eq (B := star (pt ob (.cells cur 52 (0, 0))) (star (pt rb (.cells #[.string ⟨(rs y).toArray⟩, .bool bo] 91 (0, 0))) (star (Bks (pre ++ [(b, bv)])) (star (Mp kS mb shM) (R))))) (by ac_rfl)) hcap HSZ.out.2.2 HSZ.out.1 HSZ.out.2.1)
    clear h3
    have HRs := Lib.hid (rs_le y)
    go_wp2_with (at_builtin; refine wpList_append1 rfl (.tmp 47) (.tmp 51) 53 rfl 52 i0 zB 4 48 Tryz.underlying53 hi0 hy0 hy1 hy2 rfl _ (P + 1) (blV (pre ++ [(b, bv)])) rfl h4 #[.slice none 0 0, .int .i64 0, .int .i64 v, .int .i64 (n : Nat)] rfl rfl (by intro u hu; simp at hu; rcases hu with rfl | rfl | rfl | rfl <;> rfl) (by unfold maxLen; omega) (by omega) ?_; intro a5 c5 w5 h5)
    obtain ⟨y2, hy2'⟩ : ∃ y2, rs y = y2 := ⟨_, rfl⟩
    rw [hy2'] at h5
    have HY2 := Lib.hid hy2'
    clear hy2' h4
    have HEn := Lib.hid (ends_any rb y2 bo (h5.eq (B := star (pt rb (.cells #[.string ⟨y2.toArray⟩, .bool bo] 91 (0, 0))) (star (Row 52 4 (.slice (some ⟨a5, 0, none⟩) (P + 1 + 1) c5) (P + 1 + 1) (blV (pre ++ [(b, bv)]) ++ #[.slice none 0 0, .int .i64 0, .int .i64 v, .int .i64 (n : Nat)].toList)) (star (Bks (pre ++ [(b, bv)])) (star (Mp kS mb shM) (R))))) (by ac_rfl)))
    clear h5
    obtain ⟨eb, heb⟩ : ∃ eb, (bo && decide (bl y2 = [])) = eb := ⟨_, rfl⟩
    rw [heb] at HEn
    have HEB := Lib.hid heb
    clear heb
    refine HEn.out.mono ?_
    rintro e w6 ⟨rfl, h6⟩
    have H6 := Lib.hid h6
    clear HEn h6
    cases eb with
    | false =>
      have HN : Hid (lineP (stk (pre ++ [(b, bv)])) s n = none) := Lib.hid (by
        rcases HC.out with ⟨k, g1, -, g3⟩ | ⟨g1, -⟩
        · refine lp_t2 HZ.out (by rw [HY.out]; exact g1) ?_
          rintro ⟨g4, -⟩
          have g5 := HEB.out
          rw [g3, ← HY2.out, ← HY.out, g4] at g5
          cases g5
        · exact lp_t0 HZ.out (by rw [HY.out]; exact g1))
      go_wp2
      go_ret2
      exact ⟨_, false, rfl, .inr ⟨HN.out, rfl, H6.out.right.right.right.right⟩⟩
    | true =>
      by_cases hp8 : P + 1 ≤ 8
      · have hpI : (P : Int) + 1 ≤ 8 := by omega
        obtain ⟨hb1, hb2⟩ : bo = true ∧ decide (bl y2 = []) = true := by rw [← Bool.and_eq_true]; exact HEB.out
        obtain ⟨k, hk1, hk2⟩ : ∃ k : Nat, numM 1000 (wd y) = some k ∧ v = k := by
          rcases HC.out with ⟨k, g1, g2, -⟩ | ⟨-, g1⟩
          · exact ⟨k, g1, g2⟩
          · rw [hb1] at g1; cases g1
        have HN : Hid (lineP (stk (pre ++ [(b, bv)])) s n = some (stk (pre ++ [(b, bv)] ++ [(⟨[], 0, k, n⟩, .slice none 0 0)]))) := Lib.hid (by
          rw [stk_top (pre ++ [(b, bv)])]
          exact lp_t1 HZ.out (by rw [HY.out]; exact hk1) (by rw [HY.out, HY2.out]; exact of_decide_eq_true hb2) (by rw [HST.out]; exact hp8))
        have HV := Lib.hid hk2
        clear hb1 hb2 hk1 hk2
        go_wp2
        go_ret2
        refine ⟨_, true, rfl, .inl ⟨pre ++ [(b, bv)] ++ [(⟨[], 0, k, n⟩, .slice none 0 0)], HN.out, rfl, ?_⟩⟩
        have hR := H6.out.right
        rw [HV.out] at hR
        have hR2 := hR.nilRow (e := 34) (size := 4)
        have e1 : (pre ++ [(b, bv)] ++ [((⟨[], 0, k, n⟩ : Blk), Value.slice none 0 0)]).length = P + 1 + 1 := by rw [List.length_append, List.length_append, HP.out]; rfl
        rw [Bks_append (pre ++ [(b, bv)]), Bks_one, blV_append (pre ++ [(b, bv)]), e1]
        exact hR2.eq (by
          show _ = star (Row 52 4 (.slice (some ⟨a5, 0, none⟩) (P + 1 + 1) c5) (P + 1 + 1) (blV (pre ++ [(b, bv)]) ++ blV [(⟨[], 0, k, n⟩, .slice none 0 0)])) (star (star (Bks (pre ++ [(b, bv)])) (Row 34 4 (.slice none 0 0) 0 (actsV []))) (star (Mp kS mb shM) R))
          show star (Row 34 4 (.slice none 0 0) 0 (actsV [])) (star (Row 52 4 (.slice (some ⟨a5, 0, none⟩) (P + 1 + 1) c5) (P + 1 + 1) (blV (pre ++ [(b, bv)]) ++ blV [(⟨[], 0, k, n⟩, .slice none 0 0)])) _) = _
          ac_rfl)
      · have hpI : ¬ (P : Int) + 1 ≤ 8 := by omega
        have HN : Hid (lineP (stk (pre ++ [(b, bv)])) s n = none) := Lib.hid (by
          rcases HC.out with ⟨k, g1, -, g3⟩ | ⟨g1, -⟩
          · refine lp_t2 HZ.out (by rw [HY.out]; exact g1) ?_
            rintro ⟨-, g4⟩
            rw [HST.out] at g4
            exact hp8 g4
          · exact lp_t0 HZ.out (by rw [HY.out]; exact g1))
        go_wp2
        go_ret2
        exact ⟨_, _, rfl, .inr ⟨HN.out, decide_eq_false (by omega), H6.out.right.right.right.right⟩⟩
  have d1 : (z == [116, 105, 109, 101, 115]) = false := by rw [beq_eq_false_iff_ne]; exact z1
  by_cases z2 : z = wEnd
  · subst z2
    cases hpre : pre.reverse with
    | nil =>
      obtain rfl : pre = [] := by simpa using hpre
      obtain rfl : P = 0 := HP.out.symm
      have HN : Hid (lineP (stk ([] ++ [(b, bv)])) s n = none) := Lib.hid (lp_e0 HZ.out)
      have H2 := Lib.hid h2
      clear h2 hpre
      go_wp2
      go_ret2
      exact ⟨_, false, rfl, .inr ⟨HN.out, rfl, H2.out.right.right.right.right⟩⟩
    | cons cx qr =>
      obtain ⟨q, c, cv, hpq⟩ : ∃ q c cv, pre = q ++ [(c, cv)] := ⟨qr.reverse, cx.1, cx.2, by rw [← List.reverse_reverse pre, hpre]; simp⟩
      obtain ⟨Q, hQ⟩ : ∃ Q, q.length = Q := ⟨_, rfl⟩
      obtain rfl : P = Q + 1 := by rw [← HP.out, hpq, List.length_append, hQ]; rfl
      have HQ := Lib.hid hQ
      have HPQ := Lib.hid hpq
      have HEn := Lib.hid (ends_any rb y true h2)
      clear h2 hpre hQ hpq
      obtain ⟨eb, heb⟩ : ∃ eb, (true && decide (bl y = [])) = eb := ⟨_, rfl⟩
      obtain ⟨y2, hy2⟩ : ∃ y2, bl y = y2 := ⟨_, rfl⟩
      rw [heb, hy2] at HEn
      have HEB := Lib.hid heb
      have HY2 := Lib.hid hy2
      clear heb hy2
      have hgt : (1 : Int) < (Q : Int) + 1 + 1 := by omega
      go_wp2_with fail
      refine HEn.out.mono ?_
      rintro e w3 ⟨rfl, h3⟩
      clear HEn
      cases eb with
      | false =>
        have HN : Hid (lineP (stk (pre ++ [(b, bv)])) s n = none) := Lib.hid (by
          rw [HTOP.out, HPQ.out, stk_top]
          refine lp_e2 HZ.out ?_
          rw [HY.out]
          intro g
          have g2 := HEB.out
          rw [decide_eq_true g] at g2
          cases g2)
        have H3 := Lib.hid h3
        clear h3
        go_wp2
        go_ret2
        exact ⟨_, false, rfl, .inr ⟨HN.out, rfl, H3.out.right.right.right.right⟩⟩
      | true =>
        have hb0 : bl y = [] := by
          have g2 := HEB.out
          rw [Bool.true_and] at g2
          exact of_decide_eq_true g2
        have HN : Hid (lineP (stk (pre ++ [(b, bv)])) s n = some (addB c b.l b.many b.times :: stk q)) := Lib.hid (by
          rw [HTOP.out, HPQ.out, stk_top]
          exact lp_e1 HZ.out (by rw [HY.out]; exact hb0))
        clear hb0
        go_upto_region 15 with fail
        have hcells := top_cells HP.out HSZ.out.2.1
        have HC : Hid (∀ w A, St W w (star (pt ob (.cells cur 52 (0, 0))) A) → TC ob ((Q + 1) * 4) bv b w) := Lib.hid fun w A h => ⟨h.cell _ hcells.1, h.cell _ hcells.2.1, h.cell _ hcells.2.2.1⟩
        have hd := (h3.right).drew
        clear h3 hcells
        refine Go.Proofs.YtcjlbimmplejjaaGreatDoor.Held.wp_region_held (TC ob ((Q + 1) * 4) bv b) [17] tr15 (by kernel_rfl) (by kernel_rfl) (HC.out _ _ hd) ?_
        generalize hw9 : World.drew _ = w9 at *
        clear hw9
        unfold tr15
        have hwr : IntKind.i64.wrap ((Q : Int) + 1 + 1 - 2) = (Q : Int) := by rw [IntKind.wrap_i64]; omega
        have hlt : ¬ ((Q : Int) + 1 + 1 ≤ (Q : Int)) := by omega
        refine tr_plain (.slice (some ⟨ob, 0, none⟩) (Q + 1 + 1) cap) rfl ?_ (by simp only [nthOp, Act.put, List.setIfInBounds_toArray, List.set_cons_succ, List.set_cons_zero]; rfl) ?_
        · exact fun _ => rfl
        refine tr_plain (.slice (some ⟨ob, 0, none⟩) (Q + 1 + 1) cap) rfl ?_ (by simp only [nthOp, Act.put, List.setIfInBounds_toArray, List.set_cons_succ, List.set_cons_zero]; rfl) ?_
        · exact fun _ => rfl
        refine tr_plain (.int .i64 ((Q : Int) + 1 + 1)) rfl ?_ (by simp only [nthOp, Act.put, List.setIfInBounds_toArray, List.set_cons_succ, List.set_cons_zero]; rfl) ?_
        · (intro w'; simp only [nthOp]; go_simp)
        refine tr_plain (.int .i64 (Q : Nat)) rfl ?_ (by simp only [nthOp, Act.put, List.setIfInBounds_toArray, List.set_cons_succ, List.set_cons_zero]; rfl) ?_
        · (intro w'; simp only [nthOp]; go_simp)
        refine tr_plain (.pointer (some ⟨ob, Q * 4, none⟩)) rfl ?_ (by simp only [nthOp, Act.put, List.setIfInBounds_toArray, List.set_cons_succ, List.set_cons_zero]; rfl) ?_
        · (intro w'; simp only [nthOp]; go_simp)
        refine tr_plain (.pointer (some ⟨ob, (Q + 1) * 4, none⟩)) rfl ?_ (by simp only [nthOp, Act.put, List.setIfInBounds_toArray, List.set_cons_succ, List.set_cons_zero]; rfl) ?_
        · exact fun _ => rfl
        refine tr_plain (.pointer (some ⟨ob, (Q + 1) * 4, none⟩)) rfl ?_ (by simp only [nthOp, Act.put, List.setIfInBounds_toArray, List.set_cons_succ, List.set_cons_zero]; rfl) ?_
        · (intro w'; simp only [nthOp]; go_simp)
        refine tr_plain (.pointer (some ⟨ob, (Q + 1) * 4, none⟩)) rfl ?_ (by simp only [nthOp, Act.put, List.setIfInBounds_toArray, List.set_cons_succ, List.set_cons_zero]; rfl) ?_
        · (intro w'; simp only [nthOp]; go_simp)
        refine tr_held (bv) rfl ?_ (by simp only [nthOp, Act.put, List.setIfInBounds_toArray, List.set_cons_succ, List.set_cons_zero]; rfl) ?_
        · (rintro w' ⟨hc0, hc1, hc2⟩; simp only [nthOp]; go_simp)
        refine tr_plain (.pointer (some ⟨ob, (Q + 1) * 4, none⟩)) rfl ?_ (by simp only [nthOp, Act.put, List.setIfInBounds_toArray, List.set_cons_succ, List.set_cons_zero]; rfl) ?_
        · exact fun _ => rfl
        refine tr_plain (.pointer (some ⟨ob, (Q + 1) * 4, none⟩)) rfl ?_ (by simp only [nthOp, Act.put, List.setIfInBounds_toArray, List.set_cons_succ, List.set_cons_zero]; rfl) ?_
        · (intro w'; simp only [nthOp]; go_simp)
        refine tr_plain (.pointer (some ⟨ob, (Q + 1) * 4 + 1, none⟩)) rfl ?_ (by simp only [nthOp, Act.put, List.setIfInBounds_toArray, List.set_cons_succ, List.set_cons_zero]; rfl) ?_
        · (intro w'; simp only [nthOp]; go_simp)
        refine tr_held (.int .i64 (b.many : Nat)) rfl ?_ (by simp only [nthOp, Act.put, List.setIfInBounds_toArray, List.set_cons_succ, List.set_cons_zero]; rfl) ?_
        · (rintro w' ⟨hc0, hc1, hc2⟩; simp only [nthOp]; go_simp)
        refine tr_plain (.pointer (some ⟨ob, (Q + 1) * 4, none⟩)) rfl ?_ (by simp only [nthOp, Act.put, List.setIfInBounds_toArray, List.set_cons_succ, List.set_cons_zero]; rfl) ?_
        · exact fun _ => rfl
        refine tr_plain (.pointer (some ⟨ob, (Q + 1) * 4, none⟩)) rfl ?_ (by simp only [nthOp, Act.put, List.setIfInBounds_toArray, List.set_cons_succ, List.set_cons_zero]; rfl) ?_
        · (intro w'; simp only [nthOp]; go_simp)
        refine tr_plain (.pointer (some ⟨ob, (Q + 1) * 4 + 2, none⟩)) rfl ?_ (by simp only [nthOp, Act.put, List.setIfInBounds_toArray, List.set_cons_succ, List.set_cons_zero]; rfl) ?_
        · (intro w'; simp only [nthOp]; go_simp)
        refine tr_held (.int .i64 (b.times : Nat)) rfl ?_ (by simp only [nthOp, Act.put, List.setIfInBounds_toArray, List.set_cons_succ, List.set_cons_zero]; rfl) ?_
        · (rintro w' ⟨hc0, hc1, hc2⟩; simp only [nthOp]; go_simp)
        clear hwr hlt
        have okb := HOK.out (b, bv) (by simp)
        have okc := HOK.out (c, cv) (by rw [HPQ.out]; simp)
        have hms : pre ++ [(b, bv)] = q ++ (c, cv) :: [(b, bv)] := by rw [HPQ.out]; simp
        have hct2 := HSZ.out.2.1
        rw [hms] at hct2
        have hpc := pre_cells HQ.out (by omega : Q < Q + 1 + 1) hct2
        have hbk : Bks (pre ++ [(b, bv)]) = star (Bks q) (star (Row 34 4 cv c.l.length (actsV c.l)) (Row 34 4 bv b.l.length (actsV b.l))) := by
          rw [HPQ.out, Bks_append, Bks_append, Bks_one, Bks_one]; ac_rfl
        rw [hbk] at hd
        have HAd := Lib.hid (adds_any ob (Q * 4) cur c.l b.l cv bv c.many b.many b.times okc.most okb.most okb.times okc.len okb.len hpc.1 hpc.2 (hd.eq (B := star (pt ob (.cells cur 52 (0, 0))) (star (Row 34 4 cv c.l.length (actsV c.l)) (star (Row 34 4 bv b.l.length (actsV b.l)) (star (Bks q) (star (Mp kS mb shM) (R)))))) (by ac_rfl)))
        have HCT := Lib.hid hct2
        clear hd okb okc hms hct2 hpc hbk
        refine tr_one ?_
        simp only [nthOp]
        go_wp2_with fail
        refine HAd.out.mono ?_
        rintro e wu ⟨rfl, cur', bl', hsz, g0, g1, gk, h9⟩
        have hrun := run_head (P := Tryz.prog) 53 52 4 Tryz.underlying53 sizeBk ob (Q + 1 + 1) cap (Q + 1) (by omega) ((Q : Int) + 1) (by simp)
        have hcz := addB_l c b.l b.many b.times
        have htl := addB_times c b.l b.many b.times
        rw [← hcz.1] at h9
        rw [← hcz.2] at g1
        have hset := set_rows (cur := cur) (cur' := cur') (pre := q) (b := c) (b' := addB c b.l b.many b.times) (v := cv) (v' := bl') (post := [(b, bv)]) (n := Q + 1 + 1) (by simp [HQ.out]) HCT.out hsz (by rw [HQ.out]; exact g0) (by rw [HQ.out]; exact g1) (by rw [HQ.out]; exact gk) htl.1 htl.2
        have hset2 : cur'.toList.take ((Q + 1) * 4) = blV (q ++ [(addB c b.l b.many b.times, bl')]) := by
          have g := congrArg (List.take ((Q + 1) * 4)) hset
          rw [List.take_take, Nat.min_eq_left (by omega)] at g
          rw [g, show q ++ (addB c b.l b.many b.times, bl') :: [(b, bv)] = (q ++ [(addB c b.l b.many b.times, bl')]) ++ [(b, bv)] from by simp, blV_append]
          exact List.take_left' (by rw [blV_length, List.length_append, HQ.out]; rfl)
        have hrow := St.mkRow (size := 4) (n := Q + 1) h9 (by omega : Q + 1 ≤ cap) HSZ.out.2.2 (hsz.trans HSZ.out.1) hset2
        have HR := Lib.hid hrow
        clear HAd HC h9 hset hset2 hrow g0 g1 gk hsz hcz htl
        go_wp2_with fail
        simp only [Reg.Next]
        refine ⟨fun h => by simp at h, ?_⟩
        refine tr_done ?_
        go_wp2
        go_ret2
        refine ⟨_, true, rfl, .inl ⟨q ++ [(addB c b.l b.many b.times, bl')], ?_, rfl, ?_⟩⟩
        · rw [stk_top q]; exact HN.out
        · rw [Bks_append, Bks_one, List.length_append, HQ.out]
          refine (HR.out.eq (B := star (Row 34 4 bv b.l.length (actsV b.l)) (star (Row 52 4 (.slice (some ⟨ob, 0, none⟩) (Q + 1) cap) (Q + 1) (blV (q ++ [(addB c b.l b.many b.times, bl')]))) (star (star (Bks q) (Row 34 4 bl' (addB c b.l b.many b.times).l.length (actsV (addB c b.l b.many b.times).l))) (star (Mp kS mb shM) R)))) (by ac_rfl)).right
  have d2 : (z == [101, 110, 100]) = false := by rw [beq_eq_false_iff_ne]; exact z2
  have HNE := Lib.hid (And.intro z0 (And.intro z1 z2))
  have HAc := Lib.hid (act_any HG.out HE.out rb mb z y (by omega) (h2.eq (B := star (pt rb (.cells #[.string ⟨y.toArray⟩, .bool true] 91 (0, 0))) (star (Mp kS mb shM) (star (pt ob (.cells cur 52 (0, 0))) (star (Bks (pre ++ [(b, bv)])) (R))))) (by ac_rfl)))
  clear h2 z0 z1 z2
  go_wp2_with fail
  refine HAc.out.mono ?_
  rintro e w3 ⟨x, bb, ok, y3, rfl, h3, -, hc⟩
  have HC := Lib.hid hc
  clear hc HAc
  have h4 := h3.right.alloc (.cells #[.int .u8 (x.k : Nat), .int .i64 x.c, .int .i64 x.n, .string ⟨x.s.toArray⟩] 34 (0, 0))
  obtain ⟨b14, hb14⟩ : ∃ z, w3.heap.size = z := ⟨_, rfl⟩
  rw [hb14] at h4
  clear h3
  have hae : Value.agg (aE x).toArray = .agg #[.int .u8 (x.k : Nat), .int .i64 x.c, .int .i64 x.n, .string ⟨x.s.toArray⟩] := rfl
  rw [hae]
  clear hae
  go_upto_region 6 with fail
  clear hb14 d0 d1 d2
  generalize w3.alloc (.cells #[.int .u8 (x.k : Nat), .int .i64 x.c, .int .i64 x.n, .string ⟨x.s.toArray⟩] 34 (0, 0)) = w4 at *
  have e0 := h4.cell 0 (v := .int .u8 (x.k : Nat)) rfl
  have e1 := h4.cell 1 (v := .int .i64 x.c) rfl
  have e2 := h4.cell 2 (v := .int .i64 x.n) rfl
  have e3 := h4.cell 3 (v := .string ⟨x.s.toArray⟩) rfl
  have h5 := h4.alloc (.cells #[.int .u8 (x.k : Nat), .int .i64 x.c, .int .i64 x.n, .string ⟨x.s.toArray⟩] 34 (0, 0))
  obtain ⟨b36, hb36⟩ : ∃ z, w4.heap.size = z := ⟨_, rfl⟩
  rw [hb36] at h5
  have h6 := St.mkRow (size := 4) (n := 1) (cap := 1) (xs := actsV [x]) h5 (Nat.le_refl _) (by unfold maxLen; omega) rfl rfl
  have hbk : Bks (pre ++ [(b, bv)]) = star (Bks pre) (Row 34 4 bv b.l.length (actsV b.l)) := by rw [Bks_append, Bks_one]
  rw [hbk] at h6
  have okb := HOK.out (b, bv) (by simp)
  have hcells := top_cells HP.out HSZ.out.2.1
  have HAd := Lib.hid (adds_any ob (P * 4) cur b.l [x] bv (.slice (some ⟨b36, 0, none⟩) 1 1) b.many 1 1 okb.most (by omega) (by omega) okb.len (fun _ => rfl) hcells.1 hcells.2.1 ((h6.eq (B := star (pt b14 (.cells #[.int .u8 (x.k : Nat), .int .i64 x.c, .int .i64 x.n, .string ⟨x.s.toArray⟩] 34 (0, 0))) (star (pt ob (.cells cur 52 (0, 0))) (star (Row 34 4 bv b.l.length (actsV b.l)) (star (Row 34 4 (.slice (some ⟨b36, 0, none⟩) 1 1) 1 (actsV [x])) (star (Bks pre) (star (Mp kS mb shM) (R))))))) (by ac_rfl)).right))
  clear h4 h5 h6 hbk okb hcells
  go_wp2_with fail
  refine HAd.out.mono ?_
  rintro e wu ⟨rfl, cur', bl', hsz, g0, g1, gk, h9⟩
  have hcz := addB_l b [x] 1 1
  have htl := addB_times b [x] 1 1
  rw [← hcz.1] at h9
  rw [← hcz.2] at g1
  have hset := set_rows (cur := cur) (cur' := cur') (pre := pre) (b := b) (b' := addB b [x] 1 1) (v := bv) (v' := bl') (post := []) (n := P + 1) (by simp [HP.out]) HSZ.out.2.1 hsz (by rw [HP.out]; exact g0) (by rw [HP.out]; exact g1) (by rw [HP.out]; exact gk) htl.1 htl.2
  have hrow := St.mkRow (size := 4) (n := P + 1) h9 hcap HSZ.out.2.2 (hsz.trans HSZ.out.1) hset
  have HR := Lib.hid hrow
  clear HAd h9 hset hrow g0 g1 gk hsz hcz htl e0 e1 e2 e3 hb36
  go_wp2
  go_ret2
  rcases HC.out with ⟨rfl, ha⟩ | ⟨rfl, ha⟩
  · refine ⟨_, true, rfl, .inl ⟨pre ++ [(addB b [x] 1 1, bl')], ?_, rfl, ?_⟩⟩
    · rw [stk_top pre (addB b [x] 1 1, bl'), HTOP.out]
      exact lp_a1 (by rw [HZ.out]; exact HNE.out.1) (by rw [HZ.out]; exact HNE.out.2.1) (by rw [HZ.out]; exact HNE.out.2.2) (by rw [HZ.out, HY.out]; exact ha)
    · rw [Bks_append, Bks_one, List.length_append, HP.out]
      exact (HR.out.eq (B := star (Row 34 4 (.slice (some ⟨b36, 0, none⟩) 1 1) 1 (actsV [x])) (star (Row 52 4 (.slice (some ⟨ob, 0, none⟩) (P + 1) cap) (P + 1) (blV (pre ++ [(addB b [x] 1 1, bl')]))) (star (star (Bks pre) (Row 34 4 bl' (addB b [x] 1 1).l.length (actsV (addB b [x] 1 1).l))) (star (Mp kS mb shM) R)))) (by
        show star _ (star _ (star (Row 34 4 (.slice (some ⟨b36, 0, none⟩) 1 1) 1 (actsV [x])) _)) = _
        ac_rfl)).right
  · refine ⟨_, false, rfl, .inr ⟨?_, rfl, HR.out.right.right.right.right.right⟩⟩
    exact lp_a0 (by rw [HZ.out]; exact HNE.out.1) (by rw [HZ.out]; exact HNE.out.2.1) (by rw [HZ.out]; exact HNE.out.2.2) (by rw [HZ.out, HY.out]; exact ha)
end Go.Proofs.YtcjlbimmplejjaaGreatDoor.ScD
