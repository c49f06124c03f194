import Derived.Test.YtcjlbimmplejjaaGreatDoorScX
namespace Go.Proofs.YtcjlbimmplejjaaGreatDoor.ScM
open Go Go.RowKit Go.Proofs Go.Proofs.YtcjlbimmplejjaaGreatDoor.Sep Go.Proofs.YtcjlbimmplejjaaGreatDoor.Reg Go.Proofs.YtcjlbimmplejjaaGreatDoor.Frame Go.Proofs.YtcjlbimmplejjaaGreatDoor.WdP Go.Proofs.YtcjlbimmplejjaaGreatDoor.WdT Go.Proofs.YtcjlbimmplejjaaGreatDoor.WdN Go.Proofs.YtcjlbimmplejjaaGreatDoor.ScP Go.Proofs.YtcjlbimmplejjaaGreatDoor.ScQ Go.Proofs.YtcjlbimmplejjaaGreatDoor.ScT Go.Proofs.YtcjlbimmplejjaaGreatDoor.ScA

def aE (x : Ac) : List Value := [.int .u8 (x.k : Int), .int .i64 x.c, .int .i64 x.n, .string ⟨x.s.toArray⟩]
def actsV (l : List Ac) : List Value := l.flatMap aE
theorem actsV_append (l m : List Ac) : actsV (l ++ m) = actsV l ++ actsV m := by simp [actsV]
theorem actsV_length (l : List Ac) : (actsV l).length = l.length * 4 := by
  induction l with
  | nil => rfl
  | cons x l ih => simp only [actsV, List.flatMap_cons, List.length_append, List.length_cons] at ih ⊢; rw [ih]; simp [aE]; omega
theorem actsV_one (l : List Ac) : ∀ u ∈ actsV l, u.oneCell' = true := by
  intro u hu
  obtain ⟨x, -, h⟩ := List.mem_flatMap.1 hu
  simp only [aE, List.mem_cons, List.not_mem_nil, or_false] at h
  rcases h with rfl | rfl | rfl | rfl <;> rfl
def zA : Value := .agg #[.int .u8 0, .int .i64 0, .int .i64 0, .string ByteArray.empty]
theorem infoA : (Tryz.prog.info? 34).map (fun i => (i.zero, i.size, i.bytes)) = some (some zA, 4, 40) := by kernel_rfl
/-- The cells, with v at o. -/
structure SetAt (cur : Array Value) (o : Nat) (v : Value) (cur' : Array Value) : Prop where
  size : cur'.size = cur.size
  at' : cur'[o]? = some v
  keep : ∀ j, j ≠ o → cur'[j]? = cur[j]?
theorem SetAt.of {cur : Array Value} {o : Nat} (v : Value) (h : o < cur.size) : SetAt cur o v (cur.setIfInBounds o v) :=
  ⟨by simp, by simp [h], fun j hj => by rw [Array.getElem?_setIfInBounds]; rw [if_neg (by omega)]⟩
theorem SetAt.refl {cur : Array Value} {o : Nat} {v : Value} (h : cur[o]? = some v) : SetAt cur o v cur := ⟨rfl, h, fun _ _ => rfl⟩
theorem SetAt.next {cur c1 : Array Value} {o : Nat} {v u : Value} (h : SetAt cur o v c1) : SetAt cur o u (c1.setIfInBounds o u) := by
  have hlt : o < c1.size := (Array.getElem?_eq_some_iff.1 h.at').1
  exact ⟨by simp [h.size], by simp [hlt], fun j hj => by rw [Array.getElem?_setIfInBounds, if_neg (by omega)]; exact h.keep j hj⟩
theorem SetAt.lt {cur c1 : Array Value} {o : Nat} {v : Value} (h : SetAt cur o v c1) : o < cur.size := by rw [← h.size]; exact (Array.getElem?_eq_some_iff.1 h.at').1

theorem reps_succ' (n : Nat) (l : List Ac) : reps (n + 1) l = reps n l ++ l := by simp [reps, List.replicate_succ']
def DPst (W : World) (R : Asn) (ob oo : Nat) (cur : Array Value) (L : List Ac) (bm : Nat) (M : List Ac) (sl : Value) (m t : Nat) (e : Ending) (w' : World) : Prop :=
  e = .returned (.tuple #[]) ∧ ∃ cur' bl', cur'.size = cur.size ∧ cur'[oo]? = some bl' ∧ cur'[oo + 1]? = some (.int .i64 ((addB ⟨L, bm, 0, 0⟩ M m t).many : Nat)) ∧ (∀ j, j ≠ oo → j ≠ oo + 1 → cur'[j]? = cur[j]?) ∧
    St W w' (star (pt ob (.cells cur' 52 (0, 0))) (star (Row 34 4 (bl') ((addB ⟨L, bm, 0, 0⟩ M m t).l).length (actsV ((addB ⟨L, bm, 0, 0⟩ M m t).l))) (star (Row 34 4 (sl) (M).length (actsV (M))) (R))))
theorem SetAt.two {cur c1 : Array Value} {o : Nat} {v : Value} (h : SetAt cur o v c1) (hlt : o + 1 < cur.size) (u : Value) :
    (c1.setIfInBounds (o + 1) u).size = cur.size ∧ (c1.setIfInBounds (o + 1) u)[o]? = some v ∧ (c1.setIfInBounds (o + 1) u)[o + 1]? = some u ∧ ∀ j, j ≠ o → j ≠ o + 1 → (c1.setIfInBounds (o + 1) u)[j]? = cur[j]? := by
  have h1 : o + 1 < c1.size := by rw [h.size]; exact hlt
  refine ⟨by simp [h.size], ?_, by simp [h1], fun j h2 h3 => ?_⟩
  · rw [Array.getElem?_setIfInBounds, if_neg (by omega)]; exact h.at'
  · rw [Array.getElem?_setIfInBounds, if_neg (by omega)]; exact h.keep j h2
set_option maxRecDepth 100000 in
set_option maxHeartbeats 4000000 in
theorem adds_any {W w : World} {R : Asn} (ob oo : Nat) (cur : Array Value) (L M : List Ac) (bl sl : Value) (bm m t : Nat) (hbm : bm ≤ 4097) (hm : m ≤ 4097) (ht : t ≤ 1000)
    (hL : bm ≤ 4096 → L.length = bm) (hM : m ≤ 4096 → M.length = m) (h0 : cur[oo]? = some bl) (h1 : cur[oo + 1]? = some (.int .i64 (bm : Nat)))
    (h : St W w (star (pt ob (.cells cur 52 (0, 0))) (star (Row 34 4 (bl) (L).length (actsV (L))) (star (Row 34 4 (sl) (M).length (actsV (M))) (R))))) :
    Calls Tryz.prog 49 #[.pointer (some ⟨ob, oo, none⟩), sl, .int .i64 (m : Nat), .int .i64 (t : Nat)] w (DPst W R ob oo cur L bm M sl m t) := by
  obtain ⟨i0, hi0, hz0, hz1, hz2⟩ := info_parts infoA
  have hlt : oo + 1 < cur.size := (Array.getElem?_eq_some_iff.1 h1).1
  have HA := Lib.hid h0
  by_cases hm0 : m = 0
  · subst hm0
    have HE : Hid (addB ⟨L, bm, 0, 0⟩ M 0 t = ⟨L, bm, 0, 0⟩) := Lib.hid (by unfold addB; rw [if_pos (.inl rfl)])
    have HH := Lib.hid h
    have H1 := Lib.hid h1
    clear h h0 h1
    go_enter Tryz.func49, Tryz.ntmps49
    go_wp2
    go_end0
    exact ⟨rfl, cur, bl, rfl, HA.out, by rw [HE.out]; exact H1.out, fun _ _ _ => rfl, by rw [HE.out]; exact HH.out⟩
  · have hmI : ((m : Int) == 0) = false := by rw [beq_eq_false_iff_ne]; omega
    by_cases ht0 : t = 0
    · subst ht0
      have HE : Hid (addB ⟨L, bm, 0, 0⟩ M m 0 = ⟨L, bm, 0, 0⟩) := Lib.hid (by unfold addB; rw [if_pos (.inr rfl)])
      have HH := Lib.hid h
      have H1 := Lib.hid h1
      clear h h0 h1
      go_enter Tryz.func49, Tryz.ntmps49
      go_wp2
      go_end0
      exact ⟨rfl, cur, bl, rfl, HA.out, by rw [HE.out]; exact H1.out, fun _ _ _ => rfl, by rw [HE.out]; exact HH.out⟩
    · have htI : ((t : Int) == 0) = false := by rw [beq_eq_false_iff_ne]; omega
      obtain ⟨q, hq⟩ : ∃ q, m * t = q := ⟨_, rfl⟩
      have hqI : (m : Int) * (t : Int) = (q : Int) := by rw [← hq]; simp
      have hq1 : q ≤ 4097 * 1000 := by rw [← hq]; exact Nat.mul_le_mul hm ht
      have hq0 : m ≤ q := by rw [← hq]; exact Nat.le_mul_of_pos_right m (by omega)
      have c0 := h.cell oo (v := bl) h0
      have c1 := h.cell (oo + 1) (v := .int .i64 (bm : Nat)) h1
      have f0 := h.free oo
      have f1 := h.free (oo + 1)
      have HADD : Hid (addB ⟨L, bm, 0, 0⟩ M m t = if 4096 < m ∨ 4096 < bm + q then ⟨[], 4097, 0, 0⟩ else ⟨L ++ reps t M, bm + q, 0, 0⟩) := Lib.hid (by unfold addB; rw [if_neg (by omega), hq])
      have HQ := Lib.hid hq
      clear hq
      by_cases hov : 4096 < m ∨ 4096 < bm + q
      · have HE : Hid (addB ⟨L, bm, 0, 0⟩ M m t = ⟨[], 4097, 0, 0⟩) := Lib.hid (by rw [HADD.out, if_pos hov])
        have hA := h.setCell oo (.slice none 0 0)
        have g1 := hA.free (oo + 1)
        have d1 := hA.cell (oo + 1) (v := .int .i64 (bm : Nat)) (by rw [Array.getElem?_setIfInBounds, if_neg (by omega)]; exact h1)
        have HB := Lib.hid (hA.setCell (oo + 1) (.int .i64 4097))
        have HSA := Lib.hid ((SetAt.of (.slice none 0 0) (show oo < cur.size by omega)).two hlt (.int .i64 4097))
        clear h hA h0 h1
        have HFin : Hid (St W ((w.setCell ⟨ob, oo, none⟩ (.slice none 0 0)).setCell ⟨ob, oo + 1, none⟩ (.int .i64 4097)) (star (pt ob (.cells ((cur.setIfInBounds oo (.slice none 0 0)).setIfInBounds (oo + 1) (.int .i64 4097)) 52 (0, 0))) (star (Row 34 4 (.slice none 0 0) (([] : List Ac)).length (actsV (([] : List Ac)))) (star (Row 34 4 (sl) (M).length (actsV (M))) (R))))) :=
          Lib.hid ((HB.out.nilRow (e := 34) (size := 4)).eq (B := star (Row 34 4 (bl) (L).length (actsV (L))) (star (pt ob (.cells ((cur.setIfInBounds oo (.slice none 0 0)).setIfInBounds (oo + 1) (.int .i64 4097)) 52 (0, 0))) (star (Row 34 4 (.slice none 0 0) (([] : List Ac)).length (actsV (([] : List Ac)))) (star (Row 34 4 (sl) (M).length (actsV (M))) (R))))) (by show star (Row 34 4 (.slice none 0 0) 0 []) _ = _; ac_rfl)).right
        clear HB
        by_cases hm4 : 4096 < m
        · have hm4I : (4096 : Int) < m := by omega
          go_enter Tryz.func49, Tryz.ntmps49
          go_wp2
          go_end0
          exact ⟨rfl, _, _, HSA.out.1, HSA.out.2.1, by rw [HE.out]; exact HSA.out.2.2.1, HSA.out.2.2.2, by rw [HE.out]; exact HFin.out⟩
        · have hm4I : ¬ (4096 : Int) < m := by omega
          have hbI : (4096 : Int) < bm + q := by omega
          go_enter Tryz.func49, Tryz.ntmps49
          go_wp2
          go_end0
          exact ⟨rfl, _, _, HSA.out.1, HSA.out.2.1, by rw [HE.out]; exact HSA.out.2.2.1, HSA.out.2.2.2, by rw [HE.out]; exact HFin.out⟩
      · have HE : Hid (addB ⟨L, bm, 0, 0⟩ M m t = ⟨L ++ reps t M, bm + q, 0, 0⟩) := Lib.hid (by rw [HADD.out, if_neg hov])
        have hLl : L.length = bm := hL (by omega)
        have hMl : M.length = m := hM (by omega)
        have hm4I : ¬ (4096 : Int) < m := by omega
        have hbI : ¬ (4096 : Int) < bm + q := by omega
        have H1 := Lib.hid h1
        have hS0 := h.eq (B := star (Row 34 4 (bl) (L).length (actsV (L))) (star (Row 34 4 (sl) (M).length (actsV (M))) (star (pt ob (.cells cur 52 (0, 0))) (R)))) (by ac_rfl)
        clear h h0 h1
        go_enter Tryz.func49, Tryz.ntmps49
        go_wp2_with fail
        go_loopw [36] (fun iv wr => ∃ (i : Nat) (bv : Value) (ci : Array Value), i ≤ t ∧ iv = .int .i64 i ∧ Hid (SetAt cur oo bv ci) ∧ St W wr (star (Row 34 4 (bv) (L ++ reps i M).length (actsV (L ++ reps i M))) (star (Row 34 4 (sl) (M).length (actsV (M))) (star (pt ob (.cells ci 52 (0, 0))) (R))))) (fun iv _ => t - (intOf iv).toNat)
        case atStart => exact ⟨0, bl, cur, Nat.zero_le _, rfl, Lib.hid (SetAt.refl HA.out), by rw [reps_zero, List.append_nil]; exact hS0⟩
        case round =>
          obtain ⟨i, bv, ci, hi, rfl, HSA, hS⟩ := hrel
          clear hS0 c0 c1 f0 f1
          by_cases hit : i < t
          · have hitI : (i : Int) < t := by omega
            have c0 := hS.right.right.cell oo (v := bv) HSA.out.at'
            have hsl := hS.right.rowSl
            have hbd : (L ++ reps i M).length + M.length ≤ 10000000 := by
              have h5 : i * m ≤ 1000 * 4097 := Nat.mul_le_mul (by omega) hm
              rw [List.length_append, reps_len, hMl, hLl]; omega
            obtain ⟨X, hX⟩ : ∃ X, L ++ reps i M = X := ⟨_, rfl⟩
            rw [hX] at hS hbd
            have HX := Lib.hid hX
            clear hX hLl hMl
            go_wp2_with (at_builtin; refine wpList_append_Sl rfl (.tmp 42) (.tmp 43) 23 rfl 34 i0 zA 4 40 Tryz.underlying23 hi0 hz0 hz1 hz2 rfl _ X.length (actsV X) rfl hS _ M.length (actsV M) rfl hsl (actsV_one _) (by unfold maxLen; omega) ?_ ?_)
            · omega
            intro v6 w6 h6 _
            obtain ⟨a6, c6, rfl⟩ : ∃ a c, v6 = .slice a (X.length + M.length) c := by obtain ⟨_, a, c, hv, _⟩ := h6.rowSl; exact ⟨a, c, hv⟩
            have e1 : L ++ reps (i + 1) M = X ++ M := by rw [reps_succ', ← List.append_assoc, HX.out]
            obtain ⟨nn, hnn⟩ : ∃ n, X.length + M.length = n := ⟨_, rfl⟩
            rw [hnn] at h6 ⊢
            have d0 := h6.right.right.cell oo (v := bv) HSA.out.at'
            have e0 := h6.right.right.free oo
            have h7 : St W w6 (star (pt ob (.cells ci 52 (0, 0))) (star (Row 34 4 (.slice a6 nn c6) (L ++ reps (i + 1) M).length (actsV (L ++ reps (i + 1) M))) (star (Row 34 4 (sl) (M).length (actsV (M))) (R)))) := h6.eq (by
              rw [e1, List.length_append, hnn, actsV_append]; ac_rfl)
            have H8 := Lib.hid (h7.setCell oo (.slice a6 nn c6))
            clear h6 h7 hsl hS c0 e1 hnn
            go_wp2_with fail
            exact ⟨⟨i + 1, .slice a6 nn c6, _, hit, by go_num, Lib.hid HSA.out.next, H8.out.eq (by ac_rfl)⟩, by simp [intOf]; omega⟩
          · obtain rfl : t = i := by omega
            have c1 := hS.right.right.cell (oo + 1) (v := .int .i64 (bm : Nat)) (by rw [HSA.out.keep _ (by omega)]; exact H1.out)
            have f1 := hS.right.right.free (oo + 1)
            have hS2 := hS.eq (B := star (pt ob (.cells ci 52 (0, 0))) (star (Row 34 4 (bv) (L ++ reps t M).length (actsV (L ++ reps t M))) (star (Row 34 4 (sl) (M).length (actsV (M))) (R)))) (by ac_rfl)
            have H8 := Lib.hid (hS2.setCell (oo + 1) (.int .i64 (bm + q : Int)))
            have HT := Lib.hid (HSA.out.two hlt (.int .i64 (bm + q : Int)))
            clear hS hS2
            go_wp2
            go_end0
            exact ⟨rfl, _, bv, HT.out.1, HT.out.2.1, by rw [HE.out]; exact HT.out.2.2.1, HT.out.2.2.2, by rw [HE.out]; exact H8.out⟩
end Go.Proofs.YtcjlbimmplejjaaGreatDoor.ScM
