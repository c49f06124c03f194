import Derived.Test.YtdobgebdlbckoaaGreatDoorTpA
namespace Go.Proofs.YtdobgebdlbckoaaGreatDoor.TpB
open Go Go.RowKit Go.Proofs Go.Proofs.YtdobgebdlbckoaaGreatDoor.Sep Go.Proofs.YtdobgebdlbckoaaGreatDoor.Reg Go.Proofs.YtdobgebdlbckoaaGreatDoor.Frame Go.Proofs.YtdobgebdlbckoaaGreatDoor.Slc Go.Proofs.YtdobgebdlbckoaaGreatDoor.Mp Go.Proofs.YtdobgebdlbckoaaGreatDoor.Ms Go.Proofs.YtdobgebdlbckoaaGreatDoor.TpP Go.Proofs.YtdobgebdlbckoaaGreatDoor.TpA

/-- A list without one thing. -/
def remP {α : Type} [DecidableEq α] (y : α) (l : List α) : List α := l.filter fun x => decide (x ≠ y)
theorem filt_snoc {α : Type} [DecidableEq α] (y : α) (l : List α) (j : Nat) (x : α) (hx : l[j]? = some x) : remP y (l.take (j + 1)) = if x = y then remP y (l.take j) else remP y (l.take j) ++ [x] := by
  unfold remP
  rw [List.take_add_one, hx, List.filter_append]
  by_cases h : x = y
  · simp [h]
  · simp [h]

theorem infsI : (Tryz.prog.info? 3).map (·.size) = some 1 := by kernel_rfl
def DPostI (W : World) (l : List Int) (R : Asn) (e : Ending) (w' : World) : Prop := ∃ a c, e = .returned (.slice a l.length c) ∧ St W w' (star (Row 3 1 (.slice a l.length c) l.length (l.map kI)) R)
set_option maxRecDepth 100000 in
set_option maxHeartbeats 8000000 in
theorem DeleteI_any (v : Value) (l : List Int) (n : Nat) (hn : l.length = n) (hn1 : n ≤ 1000000) (y : Int) (bx : Nat) {W w : World} {R : Asn} (h : St W w (star (Row 3 1 v n (l.map kI)) (star (pt bx (.cells #[kI y] 3 (0, 0))) R))) :
    Calls Tryz.prog 76 #[v, .func (.func 77) #[] #[.pointer (some ⟨bx, 0, none⟩)]] w (DPostI W (remP y l) (star (pt bx (.cells #[kI y] 3 (0, 0))) R)) := by
  have hcy := h.right.cell 0 rfl
  have HIX := Lib.hid (IndexI_any v l n hn hn1 y bx _ rfl w h.rowSl hcy)
  obtain ⟨_, va, vc, rfl, hvc, hvm, _⟩ := id h.rowSl
  cases hat : atI l y with
  | none =>
    rw [hat] at HIX
    have HF : Hid ((remP y l) = l) := Lib.hid (by
      unfold remP
      refine List.filter_eq_self.2 fun x hx => ?_
      unfold atI at hat
      rw [List.findIdx?_eq_none_iff] at hat
      simpa using hat x hx)
    have HN := Lib.hid hn
    have hix : ixV none = -1 := rfl
    rw [hix] at HIX
    clear hat hix hn
    go_enter Tryz.func76, Tryz.ntmps76
    go_wp2_with fail
    refine HIX.out.mono ?_
    rintro e w2 hq
    have h2 := h.makes hq
    obtain ⟨rfl, -⟩ := hq
    go_wp2
    go_ret
    rw [HF.out]
    have h3 := HN.out
    subst h3
    exact ⟨_, _, rfl, h2⟩
  | some i0 =>
    rw [hat] at HIX
    have hix : ixV (some i0) = (i0 : Int) := rfl
    rw [hix] at HIX
    obtain ⟨hil, hiy, hib⟩ : ∃ hil : i0 < l.length, l[i0] = y ∧ ∀ j (hj : j < i0), l[j]'(by omega) ≠ y := by
      unfold atI at hat
      rw [List.findIdx?_eq_some_iff_getElem] at hat
      obtain ⟨h1, h2, h3⟩ := hat
      exact ⟨h1, of_decide_eq_true h2, fun j hj => by simpa using h3 j hj⟩
    obtain ⟨hxl, hv⟩ := h.row
    rcases hv with ⟨hv, h0, _⟩ | ⟨g, cap, cur, hv, hnc, hcm, hcs, htk, hg⟩
    · omega
    cases hv
    have hcm2 : vc ≤ 9223372036854775807 := by simpa [maxLen] using hcm
    have U := Tryz.underlying33
    have hfi : remP y (l.take (i0 + 1)) = l.take i0 := by
      rw [filt_snoc y l i0 y (by rw [List.getElem?_eq_getElem hil, hiy]), if_pos rfl]
      unfold remP
      refine List.filter_eq_self.2 fun x hx => ?_
      obtain ⟨j, hj, rfl⟩ := List.mem_take_iff_getElem.1 hx
      simpa using hib j (by omega)
    have hst : cur.toList.take i0 = (remP y (l.take (i0 + 1))).map kI ∧ (cur.toList.take n).drop (i0 + 1) = (l.drop (i0 + 1)).map kI := by
      rw [Nat.mul_one] at htk
      constructor
      · rw [hfi]
        have : cur.toList.take i0 = (cur.toList.take n).take i0 := by rw [List.take_take]; congr 1; omega
        rw [this, htk, List.map_take]
      · rw [htk, List.map_drop]
    have hfl : (remP y (l.take (i0 + 1))).length = i0 := by rw [hfi]; simp; omega
    have HL := Lib.hid hn
    have hi0n : i0 < n := by omega
    have HZ := Lib.hid (show (i0 : Int) + 1 = ((i0 + 1 : Nat) : Int) by omega)
    rw [Nat.mul_one] at hcs
    obtain ⟨hst1, hst2⟩ := hst
    have HST1 := Lib.hid hst1
    have HST2 := Lib.hid hst2
    have HFL := Lib.hid hfl
    have HCS := Lib.hid hcs
    have hne : ((i0 : Int) == -1) = false := by rw [beq_eq_false_iff_ne]; omega
    clear hat hix hib hxl htk hfi hst1 hst2 hfl hvc hvm hiy hn hil hcs
    go_enter Tryz.func76, Tryz.ntmps76
    go_wp2_with fail
    refine HIX.out.mono ?_
    rintro e w2 hq
    have h2 := hg.makes hq
    obtain ⟨rfl, -⟩ := hq
    clear HIX h hg hcy
    go_wp2_with fail
    go_loopw [5, 6] (fun iv jv wr => ∃ (i j : Nat) (cs : Array Value), i < j ∧ j ≤ n ∧ iv = .int .i64 i ∧ jv = .int .i64 j ∧ cs.size = vc ∧ (remP y (l.take j)).length = i ∧
        cs.toList.take i = (remP y (l.take j)).map kI ∧ (cs.toList.take n).drop j = (l.drop j).map kI ∧ St W wr (star (pt g (.cells cs 3 (0, 0))) (star (pt bx (.cells #[kI y] 3 (0, 0))) R))) (fun _ jv _ => n - (intOf jv).toNat)
    case atStart => exact ⟨i0, i0 + 1, cur, by omega, by omega, rfl, by go_num, HCS.out, HFL.out, HST1.out, HST2.out, h2⟩
    case round =>
      obtain ⟨i, j, cs, hij, hj, rfl, rfl, hcs, hfl, ht1, ht2, hS⟩ := hrel
      clear h2 HST1 HST2 HFL HCS
      by_cases hjn : j < n
      · obtain ⟨x, hx⟩ : ∃ x, l[j]? = some x := ⟨_, List.getElem?_eq_getElem (by rw [HL.out]; exact hjn)⟩
        have hcx : cs[j]? = some (kI x) := by
          have h1 : ((cs.toList.take n).drop j)[0]? = some (kI x) := by
            rw [ht2, List.getElem?_map, List.getElem?_drop, Nat.add_zero, hx]; rfl
          rw [List.getElem?_drop, Nat.add_zero, List.getElem?_take, if_pos hjn] at h1
          simpa using h1
        have hcell := hS.cell j hcx
        have hfr := hS.free i
        have hiz : (cs[i]?).isSome = true := by rw [Array.getElem?_eq_getElem (by omega)]; rfl
        obtain ⟨u, hu⟩ := Option.isSome_iff_exists.1 hiz
        have hci := hS.cell i hu
        have HU := Lib.hid hu
        have hcy := hS.right.cell 0 rfl
        have HI := fun b hb => isI_any x y b hb bx wr hcy
        have HFS := filt_snoc y l j x hx
        have ht2' : (cs.toList.take n).drop (j + 1) = (l.drop (j + 1)).map kI := by
          have e1 : (cs.toList.take n).drop (j + 1) = ((cs.toList.take n).drop j).drop 1 := by rw [List.drop_drop]
          rw [e1, ht2, ← List.map_drop, List.drop_drop]
        have HT2 := Lib.hid ht2'
        have HT1 := Lib.hid ht1
        have HFL := Lib.hid hfl
        have HCS := Lib.hid hcs
        have hjc : j < vc := by omega
        have hic : i < vc := by omega
        have hin : i < n := by omega
        clear hx hcx hiz hu ht1 ht2 ht2' hfl hcs
        by_cases hxy : x = y
        · have HI2 := Lib.hid (HI true (by simpa using hxy))
          rw [if_pos hxy] at HFS
          have HFS := Lib.hid HFS
          clear HI hxy hci hfr
          go_wp2_with fail
          refine HI2.out.mono ?_
          rintro e w3 hq
          have h3 := hS.makes hq
          obtain ⟨rfl, -⟩ := hq
          go_wp2_with fail
          exact ⟨⟨i, j + 1, cs, by omega, by omega, rfl, by go_num, HCS.out, by rw [HFS.out]; exact HFL.out, by rw [HFS.out]; exact HT1.out, HT2.out, h3⟩, by simp [intOf]; omega⟩
        · have HI2 := Lib.hid (HI false (by simpa using hxy))
          rw [if_neg hxy] at HFS
          have HFS := Lib.hid HFS
          clear HI hxy
          go_wp2_with fail
          refine HI2.out.mono ?_
          rintro e w3 hq
          have h3 := hS.makes hq
          obtain ⟨rfl, -⟩ := hq
          have hci3 := h3.cell i HU.out
          have hfr3 := h3.free i
          clear hci hfr hcell
          go_wp2_with fail
          have h4 := h3.setCell i (kI x)
          refine ⟨⟨i + 1, j + 1, cs.setIfInBounds i (kI x), by omega, by omega, by go_num, by go_num, by simpa using HCS.out, by rw [HFS.out, List.length_append, HFL.out]; rfl, ?_, ?_, h4⟩, by simp [intOf]; omega⟩
          · rw [HFS.out, List.map_append, ← HT1.out, Array.toList_setIfInBounds, List.take_add_one]
            rw [List.take_set_of_le (Nat.le_refl _), List.getElem?_set_self (by simp [HCS.out]; exact hic)]
            rfl
          · rw [← HT2.out, Array.toList_setIfInBounds, List.take_set, List.drop_set_of_lt (by omega)]
      · obtain rfl : j = n := by omega
        have hlt : (l.take j).length = j := by simp [HL.out]
        have htk : l.take j = l := List.take_of_length_le (by rw [HL.out]; exact Nat.le_refl _)
        rw [htk] at hfl ht1
        have hs1 := run_cut_l' (P := Tryz.prog) 33 3 1 U infsI (some ⟨g, 0, none⟩) j vc (i : Int) i rfl (by omega)
        rw [cut_tail g vc i j 1 (by omega), Nat.mul_one] at hs1
        have hs2 := run_head (P := Tryz.prog) 33 3 1 U infsI g j vc i (by omega) (i : Int) rfl
        have hC := fun ty => run_clear_spl (P := Tryz.prog) hS 33 ty 3 (.int .i64 0) U Tryz.zeroValue3 (by intro u hu; simp [Value.cells] at hu; subst hu; rfl) i (j - i) (vc - i) (by omega) (by simp [Value.cells, hcs]; omega)
        have h5 := St.spl hS i (Builtin.zeroCells (Value.cells (.int .i64 0)) (j - i)).toList
        have hzl : (Builtin.zeroCells (Value.cells (.int .i64 0)) (j - i)).toList.length = j - i := by simp [size_zeroCells, Value.cells]
        have hfin := St.mkRow (size := 1) (n := i) (cap := vc) (xs := (remP y l).map kI) h5 (by omega) hcm (by rw [List.size_toArray, spl_len (by rw [hzl]; simp [hcs]; omega)]; simp [hcs]) (by
          show (Slc.spl cs.toList i _).take _ = _
          rw [Nat.mul_one, spl_take_le (Nat.le_refl _) (by simp [hcs]; omega)]
          exact ht1)
        have HFL := Lib.hid hfl
        clear hfl ht1 ht2 hcs hzl hlt htk hS h5
        generalize (Builtin.zeroCells (Value.cells (.int .i64 0)) (j - i)).toList = zs at *
        go_wp2_with (at_builtin; refine wpList_clear_run rfl (.tmp 38) 33 rfl (hC _) ?_)
        go_ret
        unfold DPostI
        rw [HFL.out]
        exact ⟨_, _, rfl, hfin⟩

set_option maxRecDepth 100000 in
set_option maxHeartbeats 8000000 in
theorem withoutI_any (v : Value) (l : List Int) (n : Nat) (hn : l.length = n) (hn1 : n ≤ 1000000) (y : Int) {W w : World} {R : Asn} (h : St W w R) (hsl : Sl w 1 v n (l.map kI)) :
    Calls Tryz.prog 55 #[v, kI y] w (DPostI W (remP y l) R) := by
  have h1 := h.alloc (.cells #[kI y] 3)
  have hsl1 : Sl (w.alloc (.cells #[kI y] 3)) 1 v n (l.map kI) := by
    obtain ⟨hl, a, c, hv, q1, q2, q3, q4⟩ := hsl
    exact ⟨hl, a, c, hv, q1, q2, q3, fun ad hd i u hu => (World.cell?_alloc_lt _ _ _ (World.block_lt_of_cell? w _ (q4 ad hd i u hu))).trans (q4 ad hd i u hu)⟩
  have HC := Lib.hid (CloneI_any v l n hn hn1 h1 hsl1)
  have HN := Lib.hid hn
  clear hsl hsl1 hn
  go_enter Tryz.func55, Tryz.ntmps55
  go_wp2_with fail
  refine HC.out.mono ?_
  rintro e w2 ⟨v2, rfl, h2⟩
  have HD := Lib.hid (DeleteI_any v2 l n HN.out hn1 y _ h2)
  clear HC h2
  go_wp2_with fail
  refine HD.out.mono ?_
  rintro e w3 ⟨a3, c3, rfl, h3⟩
  go_wp2
  go_ret
  exact ⟨_, _, rfl, (h3.eq (star_left_comm _ _ _)).right⟩

theorem infsS : (Tryz.prog.info? 9).map (·.size) = some 1 := by kernel_rfl
def DPostS (W : World) (l : List Tx) (R : Asn) (e : Ending) (w' : World) : Prop := ∃ a c, e = .returned (.slice a l.length c) ∧ St W w' (star (Row 9 1 (.slice a l.length c) l.length (l.map kS)) R)
set_option maxRecDepth 100000 in
set_option maxHeartbeats 8000000 in
theorem DeleteS_any (v : Value) (l : List Tx) (n : Nat) (hn : l.length = n) (hn1 : n ≤ 1000000) (y : Tx) (bx : Nat) {W w : World} {R : Asn} (h : St W w (star (Row 9 1 v n (l.map kS)) (star (pt bx (.cells #[kS y] 9 (0, 0))) R))) :
    Calls Tryz.prog 78 #[v, .func (.func 79) #[] #[.pointer (some ⟨bx, 0, none⟩)]] w (DPostS W (remP y l) (star (pt bx (.cells #[kS y] 9 (0, 0))) R)) := by
  have hcy := h.right.cell 0 rfl
  have HIX := Lib.hid (IndexS_any v l n hn hn1 y bx _ rfl w h.rowSl hcy)
  obtain ⟨_, va, vc, rfl, hvc, hvm, _⟩ := id h.rowSl
  cases hat : atS l y with
  | none =>
    rw [hat] at HIX
    have HF : Hid ((remP y l) = l) := Lib.hid (by
      unfold remP
      refine List.filter_eq_self.2 fun x hx => ?_
      unfold atS at hat
      rw [List.findIdx?_eq_none_iff] at hat
      simpa using hat x hx)
    have HN := Lib.hid hn
    have hix : ixV none = -1 := rfl
    rw [hix] at HIX
    clear hat hix hn
    go_enter Tryz.func78, Tryz.ntmps78
    go_wp2_with fail
    refine HIX.out.mono ?_
    rintro e w2 hq
    have h2 := h.makes hq
    obtain ⟨rfl, -⟩ := hq
    go_wp2
    go_ret
    rw [HF.out]
    have h3 := HN.out
    subst h3
    exact ⟨_, _, rfl, h2⟩
  | some i0 =>
    rw [hat] at HIX
    have hix : ixV (some i0) = (i0 : Int) := rfl
    rw [hix] at HIX
    obtain ⟨hil, hiy, hib⟩ : ∃ hil : i0 < l.length, l[i0] = y ∧ ∀ j (hj : j < i0), l[j]'(by omega) ≠ y := by
      unfold atS at hat
      rw [List.findIdx?_eq_some_iff_getElem] at hat
      obtain ⟨h1, h2, h3⟩ := hat
      exact ⟨h1, of_decide_eq_true h2, fun j hj => by simpa using h3 j hj⟩
    obtain ⟨hxl, hv⟩ := h.row
    rcases hv with ⟨hv, h0, _⟩ | ⟨g, cap, cur, hv, hnc, hcm, hcs, htk, hg⟩
    · omega
    cases hv
    have hcm2 : vc ≤ 9223372036854775807 := by simpa [maxLen] using hcm
    have U := Tryz.underlying36
    have hfi : remP y (l.take (i0 + 1)) = l.take i0 := by
      rw [filt_snoc y l i0 y (by rw [List.getElem?_eq_getElem hil, hiy]), if_pos rfl]
      unfold remP
      refine List.filter_eq_self.2 fun x hx => ?_
      obtain ⟨j, hj, rfl⟩ := List.mem_take_iff_getElem.1 hx
      simpa using hib j (by omega)
    have hst : cur.toList.take i0 = (remP y (l.take (i0 + 1))).map kS ∧ (cur.toList.take n).drop (i0 + 1) = (l.drop (i0 + 1)).map kS := by
      rw [Nat.mul_one] at htk
      constructor
      · rw [hfi]
        have : cur.toList.take i0 = (cur.toList.take n).take i0 := by rw [List.take_take]; congr 1; omega
        rw [this, htk, List.map_take]
      · rw [htk, List.map_drop]
    have hfl : (remP y (l.take (i0 + 1))).length = i0 := by rw [hfi]; simp; omega
    have HL := Lib.hid hn
    have hi0n : i0 < n := by omega
    have HZ := Lib.hid (show (i0 : Int) + 1 = ((i0 + 1 : Nat) : Int) by omega)
    rw [Nat.mul_one] at hcs
    obtain ⟨hst1, hst2⟩ := hst
    have HST1 := Lib.hid hst1
    have HST2 := Lib.hid hst2
    have HFL := Lib.hid hfl
    have HCS := Lib.hid hcs
    have hne : ((i0 : Int) == -1) = false := by rw [beq_eq_false_iff_ne]; omega
    clear hat hix hib hxl htk hfi hst1 hst2 hfl hvc hvm hiy hn hil hcs
    go_enter Tryz.func78, Tryz.ntmps78
    go_wp2_with fail
    refine HIX.out.mono ?_
    rintro e w2 hq
    have h2 := hg.makes hq
    obtain ⟨rfl, -⟩ := hq
    clear HIX h hg hcy
    go_wp2_with fail
    go_loopw [5, 6] (fun iv jv wr => ∃ (i j : Nat) (cs : Array Value), i < j ∧ j ≤ n ∧ iv = .int .i64 i ∧ jv = .int .i64 j ∧ cs.size = vc ∧ (remP y (l.take j)).length = i ∧
        cs.toList.take i = (remP y (l.take j)).map kS ∧ (cs.toList.take n).drop j = (l.drop j).map kS ∧ St W wr (star (pt g (.cells cs 9 (0, 0))) (star (pt bx (.cells #[kS y] 9 (0, 0))) R))) (fun _ jv _ => n - (intOf jv).toNat)
    case atStart => exact ⟨i0, i0 + 1, cur, by omega, by omega, rfl, by go_num, HCS.out, HFL.out, HST1.out, HST2.out, h2⟩
    case round =>
      obtain ⟨i, j, cs, hij, hj, rfl, rfl, hcs, hfl, ht1, ht2, hS⟩ := hrel
      clear h2 HST1 HST2 HFL HCS
      by_cases hjn : j < n
      · obtain ⟨x, hx⟩ : ∃ x, l[j]? = some x := ⟨_, List.getElem?_eq_getElem (by rw [HL.out]; exact hjn)⟩
        have hcx : cs[j]? = some (kS x) := by
          have h1 : ((cs.toList.take n).drop j)[0]? = some (kS x) := by
            rw [ht2, List.getElem?_map, List.getElem?_drop, Nat.add_zero, hx]; rfl
          rw [List.getElem?_drop, Nat.add_zero, List.getElem?_take, if_pos hjn] at h1
          simpa using h1
        have hcell := hS.cell j hcx
        have hfr := hS.free i
        have hiz : (cs[i]?).isSome = true := by rw [Array.getElem?_eq_getElem (by omega)]; rfl
        obtain ⟨u, hu⟩ := Option.isSome_iff_exists.1 hiz
        have hci := hS.cell i hu
        have HU := Lib.hid hu
        have hcy := hS.right.cell 0 rfl
        have HI := fun b hb => isS_any x y b hb bx wr hcy
        have HFS := filt_snoc y l j x hx
        have ht2' : (cs.toList.take n).drop (j + 1) = (l.drop (j + 1)).map kS := by
          have e1 : (cs.toList.take n).drop (j + 1) = ((cs.toList.take n).drop j).drop 1 := by rw [List.drop_drop]
          rw [e1, ht2, ← List.map_drop, List.drop_drop]
        have HT2 := Lib.hid ht2'
        have HT1 := Lib.hid ht1
        have HFL := Lib.hid hfl
        have HCS := Lib.hid hcs
        have hjc : j < vc := by omega
        have hic : i < vc := by omega
        have hin : i < n := by omega
        clear hx hcx hiz hu ht1 ht2 ht2' hfl hcs
        by_cases hxy : x = y
        · have HI2 := Lib.hid (HI true (by simpa using hxy))
          rw [if_pos hxy] at HFS
          have HFS := Lib.hid HFS
          clear HI hxy hci hfr
          go_wp2_with fail
          refine HI2.out.mono ?_
          rintro e w3 hq
          have h3 := hS.makes hq
          obtain ⟨rfl, -⟩ := hq
          go_wp2_with fail
          exact ⟨⟨i, j + 1, cs, by omega, by omega, rfl, by go_num, HCS.out, by rw [HFS.out]; exact HFL.out, by rw [HFS.out]; exact HT1.out, HT2.out, h3⟩, by simp [intOf]; omega⟩
        · have HI2 := Lib.hid (HI false (by simpa using hxy))
          rw [if_neg hxy] at HFS
          have HFS := Lib.hid HFS
          clear HI hxy
          go_wp2_with fail
          refine HI2.out.mono ?_
          rintro e w3 hq
          have h3 := hS.makes hq
          obtain ⟨rfl, -⟩ := hq
          have hci3 := h3.cell i HU.out
          have hfr3 := h3.free i
          clear hci hfr hcell
          go_wp2_with fail
          have h4 := h3.setCell i (kS x)
          refine ⟨⟨i + 1, j + 1, cs.setIfInBounds i (kS x), by omega, by omega, by go_num, by go_num, by simpa using HCS.out, by rw [HFS.out, List.length_append, HFL.out]; rfl, ?_, ?_, h4⟩, by simp [intOf]; omega⟩
          · rw [HFS.out, List.map_append, ← HT1.out, Array.toList_setIfInBounds, List.take_add_one]
            rw [List.take_set_of_le (Nat.le_refl _), List.getElem?_set_self (by simp [HCS.out]; exact hic)]
            rfl
          · rw [← HT2.out, Array.toList_setIfInBounds, List.take_set, List.drop_set_of_lt (by omega)]
      · obtain rfl : j = n := by omega
        have hlt : (l.take j).length = j := by simp [HL.out]
        have htk : l.take j = l := List.take_of_length_le (by rw [HL.out]; exact Nat.le_refl _)
        rw [htk] at hfl ht1
        have hs1 := run_cut_l' (P := Tryz.prog) 36 9 1 U infsS (some ⟨g, 0, none⟩) j vc (i : Int) i rfl (by omega)
        rw [cut_tail g vc i j 1 (by omega), Nat.mul_one] at hs1
        have hs2 := run_head (P := Tryz.prog) 36 9 1 U infsS g j vc i (by omega) (i : Int) rfl
        have hC := fun ty => run_clear_spl (P := Tryz.prog) hS 36 ty 9 (.string ByteArray.empty) U Tryz.zeroValue9 (by intro u hu; simp [Value.cells] at hu; subst hu; rfl) i (j - i) (vc - i) (by omega) (by simp [Value.cells, hcs]; omega)
        have h5 := St.spl hS i (Builtin.zeroCells (Value.cells (.string ByteArray.empty)) (j - i)).toList
        have hzl : (Builtin.zeroCells (Value.cells (.string ByteArray.empty)) (j - i)).toList.length = j - i := by simp [size_zeroCells, Value.cells]
        have hfin := St.mkRow (size := 1) (n := i) (cap := vc) (xs := (remP y l).map kS) h5 (by omega) hcm (by rw [List.size_toArray, spl_len (by rw [hzl]; simp [hcs]; omega)]; simp [hcs]) (by
          show (Slc.spl cs.toList i _).take _ = _
          rw [Nat.mul_one, spl_take_le (Nat.le_refl _) (by simp [hcs]; omega)]
          exact ht1)
        have HFL := Lib.hid hfl
        clear hfl ht1 ht2 hcs hzl hlt htk hS h5
        generalize (Builtin.zeroCells (Value.cells (.string ByteArray.empty)) (j - i)).toList = zs at *
        go_wp2_with (at_builtin; refine wpList_clear_run rfl (.tmp 38) 36 rfl (hC _) ?_)
        go_ret
        unfold DPostS
        rw [HFL.out]
        exact ⟨_, _, rfl, hfin⟩

set_option maxRecDepth 100000 in
set_option maxHeartbeats 8000000 in
theorem withoutS_any (v : Value) (l : List Tx) (n : Nat) (hn : l.length = n) (hn1 : n ≤ 1000000) (y : Tx) {W w : World} {R : Asn} (h : St W w R) (hsl : Sl w 1 v n (l.map kS)) :
    Calls Tryz.prog 56 #[v, kS y] w (DPostS W (remP y l) R) := by
  have h1 := h.alloc (.cells #[kS y] 9)
  have hsl1 : Sl (w.alloc (.cells #[kS y] 9)) 1 v n (l.map kS) := by
    obtain ⟨hl, a, c, hv, q1, q2, q3, q4⟩ := hsl
    exact ⟨hl, a, c, hv, q1, q2, q3, fun ad hd i u hu => (World.cell?_alloc_lt _ _ _ (World.block_lt_of_cell? w _ (q4 ad hd i u hu))).trans (q4 ad hd i u hu)⟩
  have HC := Lib.hid (CloneS_any v l n hn hn1 h1 hsl1)
  have HN := Lib.hid hn
  clear hsl hsl1 hn
  go_enter Tryz.func56, Tryz.ntmps56
  go_wp2_with fail
  refine HC.out.mono ?_
  rintro e w2 ⟨v2, rfl, h2⟩
  have HD := Lib.hid (DeleteS_any v2 l n HN.out hn1 y _ h2)
  clear HC h2
  go_wp2_with fail
  refine HD.out.mono ?_
  rintro e w3 ⟨a3, c3, rfl, h3⟩
  go_wp2
  go_ret
  exact ⟨_, _, rfl, (h3.eq (star_left_comm _ _ _)).right⟩
end Go.Proofs.YtdobgebdlbckoaaGreatDoor.TpB
