import Derived.Test.YthaekkmnglhinaaTpV
import Derived.Deep.Cut
import Derived.Deep.CutRange
import Derived.Deep.CutBlock
namespace Go.Proofs.Ythaekkmnglhinaa.TpX
open Go Go.RowKit Go.Proofs Go.Proofs.Ythaekkmnglhinaa.Sep Go.Proofs.Ythaekkmnglhinaa.Reg Go.Proofs.Ythaekkmnglhinaa.Frame Go.Proofs.Ythaekkmnglhinaa.Held Go.Proofs.Ythaekkmnglhinaa.TpP Go.Proofs.Ythaekkmnglhinaa.TpA Go.Proofs.Ythaekkmnglhinaa.TpI Go.Proofs.Ythaekkmnglhinaa.TpK Go.Proofs.Ythaekkmnglhinaa.TpL Go.Proofs.Ythaekkmnglhinaa.TpM Go.Proofs.Ythaekkmnglhinaa.TpN Go.Proofs.Ythaekkmnglhinaa.TpO Go.Proofs.Ythaekkmnglhinaa.TpS Go.Proofs.Ythaekkmnglhinaa.TpT Go.Proofs.Ythaekkmnglhinaa.TpU Go.Proofs.Ythaekkmnglhinaa.TpV

/-! A slice of numbers that came in. -/
namespace IntC
def E (x : Int) : List Value := [.int .i64 x]
def Ok (x : Int) : Prop := (Lit.int .i64 x).wf = true
theorem len (x : Int) : (E x).length = 1 := rfl
theorem dec {H : Type} {enc : TypeId × Value → H} {w : World} {base : Nat} {spare : Nat → Bool} {held : Bool} {n : Nat} {cs : List Value} {y : DataW H × List MemPlace} {P : Program} {t : TypeId} (ht : P.underlying t = some (.int .i64))
    (h : DataW.trod enc P w base spare held n t cs = some y) : ∃ x, cs = E x ∧ Ok x := int_in ht h
theorem map (l : List Int) : l.flatMap E = l.map kI := by
  induction l with
  | nil => rfl
  | cons x l ih => rw [List.flatMap_cons, ih]; rfl
end IntC
theorem cutI {w : World} {a : Option Addr} {n c : Nat} {l : List Int} (h : Sl w 1 (.slice a n c) n (l.map kI)) (i j : Nat) (h1 : i ≤ j) (h2 : j ≤ n) : Sl w 1 (cutV a c i j 1) (j - i) (((l.drop i).take (j - i)).map kI) := by
  have := h.cut i j h1 h2
  rwa [Nat.mul_one, Nat.mul_one, ← List.map_drop, ← List.map_take] at this
theorem addP_nodup {l : List Pr} (h : l.Nodup) (t : Tx) (k : Int) : (addP l t k).Nodup := by
  unfold addP
  split
  · exact h
  · rename_i hn
    rw [List.nodup_append]
    exact ⟨h, by simp, fun a ha b hb e => hn (by simp at hb; rw [← hb, ← e]; exact ha)⟩
theorem addP_le (l : List Pr) (t : Tx) (k : Int) : (addP l t k).length ≤ l.length + 1 := by
  unfold addP; split <;> simp
theorem addP_ne (l : List Pr) (t : Tx) (k : Int) : ofP (addP l t k) t ≠ [] := by
  intro h
  have : k ∈ ofP (addP l t k) t := by
    rw [mem_ofP]; unfold addP; split
    · assumption
    · simp
  rw [h] at this; cases this
theorem cutA {w : World} {a : Option Addr} {n c q : Nat} {A B : List Int} {x : Int} (h : Sl w 1 (.slice a n c) n ((A ++ x :: B).map kI)) (hq : A.length = q) : Sl w 1 (cutV a c 0 q 1) q (A.map kI) := by
  have hn : n = q + 1 + B.length := by have := h.1; simp at this; omega
  have := cutI h 0 q (Nat.zero_le _) (by omega)
  rw [List.drop_zero, Nat.sub_zero, ← hq, List.take_left] at this
  rw [← hq]; exact this
theorem cutB {w : World} {a : Option Addr} {n c q r : Nat} {A B : List Int} {x : Int} (h : Sl w 1 (.slice a n c) n ((A ++ x :: B).map kI)) (hq : A.length = q) (hr : B.length = r) : Sl w 1 (cutV a c (q + 1) n 1) r (B.map kI) := by
  have hn : n = q + 1 + r := by have := h.1; simp at this; omega
  have := cutI h (q + 1) n (by omega) (Nat.le_refl _)
  have e : n - (q + 1) = r := by omega
  have e2 : (A ++ x :: B).drop (q + 1) = B := by rw [← hq]; simp
  rw [e, e2, ← hr, List.take_length, hr] at this
  exact this
/-- The remainder, made to stand in the list. -/
theorem rem_at (n : Int) (m : Nat) (hm : 0 < m) : ∃ q : Nat, q < m ∧ ((¬ n.tmod m < 0 ∧ n.tmod m = q) ∨ (n.tmod m < 0 ∧ n.tmod m + m = q)) := by
  have h1 : n.tmod m < m := Int.tmod_lt_of_pos _ (by omega)
  have h2 : -(m : Int) < n.tmod m := by
    have h := Int.tmod_lt_of_pos (-n) (show (0 : Int) < m by omega)
    rw [Int.neg_tmod] at h
    omega
  by_cases h : n.tmod m < 0
  · exact ⟨(n.tmod m + m).toNat, by omega, .inr ⟨h, by omega⟩⟩
  · exact ⟨(n.tmod m).toNat, by omega, .inl ⟨h, by omega⟩⟩
/-- The plain law: dropped and added again. -/
theorem again {l : List Pr} (hnd : l.Nodup) {t : Tx} {A B : List Int} {x : Int} (h : ofP l t = A ++ x :: B) : (t, x) ∈ l ∧ (t, x) ∉ dropP l t x ∧ ofP (dropP l t x) t = A ++ B ∧ ofP (addP (dropP l t x) t x) t = A ++ B ++ [x] := by
  have h1 : (t, x) ∈ l := mem_ofP.1 (by rw [h]; simp)
  have h2 : (t, x) ∉ dropP l t x := by rw [mem_dropP]; simp
  have hn := ofP_nodup hnd t
  rw [h] at hn
  have h3 : ofP (dropP l t x) t = A ++ B := by
    rw [ofP_drop, if_pos rfl, h, List.filter_append, List.filter_cons_of_neg (by simp)]
    have hA : x ∉ A := fun hx => (List.nodup_append.1 hn).2.2 x hx x (by simp) rfl
    have hB : x ∉ B := (List.nodup_cons.1 (List.nodup_append.1 hn).2.1).1
    rw [List.filter_eq_self.2 (fun y hy => by simp; rintro rfl; exact hA hy), List.filter_eq_self.2 (fun y hy => by simp; rintro rfl; exact hB hy)]
  refine ⟨h1, h2, h3, ?_⟩
  unfold addP
  rw [if_neg h2, ofP_append, h3, ofP_one, if_pos rfl]
def tr18 : Tr := .plain 1 (.plain 2 (.plain 3 (.plain 5 (.plain 6 (.plain 7 (.plain 8 (.plain 10 (.two 0 (.two 4 (.two 9 (.one 11 (.one 12 (.plain 13 (.done)))) 11 (.one 9 (.one 12 (.plain 13 (.done))))) 11 (.one 4 (.one 9 (.one 12 (.plain 13 (.done)))))) 11 (.one 0 (.one 4 (.one 9 (.one 12 (.plain 13 (.done))))))))))))))
set_option maxRecDepth 100000 in
set_option maxHeartbeats 8000000 in
theorem behind_walk {W : World} (a0 : Option Addr) (len0 cap0 : Nat) (xs : List Int) (hlen : xs.length = len0) (hsl : Sl W 1 (.slice a0 len0 cap0) len0 (xs.flatMap IntC.E)) (_ : ∀ x ∈ xs, IntC.Ok x) (n : Int) (_ : (Lit.int .i64 n).wf = true) :
    Calls Try.prog 3 #[.slice a0 len0 cap0, .int .i64 n] W (Law W emp) := by
  rw [IntC.map] at hsl
  have HSL := Lib.hid hsl
  have HLEN := Lib.hid hlen
  have HWK := Lib.hid (wakes_any W)
  clear hsl hlen
  go_enter Try.func3, Try.ntmps3
  by_cases hb : len0 ≤ 40
  · by_cases hb1 : 1 ≤ len0
    · have g1 : ¬ (40 : Int) < len0 := by omega
      have g2 : ¬ (len0 : Int) < 1 := by omega
      have HN := Lib.hid (New_any (St.start W))
      go_wp2_with fail
      refine HN.out.mono ?_
      rintro e w0 ⟨p, rfl, h0⟩
      clear HN HWK
      go_wp2_with fail
      go_loopw [6] (fun iv wr => ∃ (i : Nat) (l : List Pr), i ≤ len0 ∧ iv = .int .i64 i ∧ l.length ≤ i ∧ l.Nodup ∧ (0 < i → ofP l [116] ≠ []) ∧ St W wr (star (IsR p l) emp)) (fun iv _ => len0 - (intOf iv).toNat)
      case atStart => exact ⟨0, [], Nat.zero_le _, rfl, Nat.le_refl _, List.nodup_nil, fun h => absurd h (Nat.lt_irrefl _), h0⟩
      case round =>
        obtain ⟨i, l, hi, rfl, hll, hnd, hne, hS⟩ := hrel
        have HNE := Lib.hid hne
        clear hne
        by_cases hin : i < len0
        · obtain ⟨x, hx⟩ : ∃ x, xs[i]? = some x := ⟨_, List.getElem?_eq_getElem (by rw [HLEN.out]; exact hin)⟩
          obtain ⟨ab, ao, rfl, hel⟩ := elI HSL.out hx
          have he := hel _ _ hS
          have hinI : (i : Int) < len0 := by omega
          have HA := Lib.hid (Add_any p l (by omega) [116] x hS)
          have HNE2 := Lib.hid (addP_ne l [116] x)
          clear hel hx
          go_wp2_with fail
          refine HA.out.mono ?_
          rintro e w1 ⟨rfl, h1⟩
          go_wp2_with fail
          exact ⟨⟨i + 1, _, hin, by go_num, by have := addP_le l [116] x; omega, addP_nodup hnd _ _, fun _ => HNE2.out, h1⟩, by simp [intOf]; omega⟩
        · obtain rfl : i = len0 := by omega
          have hL : ofP l [116] ≠ [] := HNE.out (by omega)
          have hle := ofP_le l [116]
          have HO := Lib.hid (of_any p l (by omega) [116] 1000 (by decide) (by decide) (ofP l [116]) (List.take_of_length_le (by omega)) 1000 rfl hS)
          obtain ⟨m, hm⟩ : ∃ m, (ofP l [116]).length = m := ⟨_, rfl⟩
          have hm0 : 0 < m := by rw [← hm]; exact List.length_pos_iff.2 hL
          obtain ⟨q, hq, hqq⟩ := rem_at n m hm0
          unfold OPst at HO
          rw [hm] at HO hle
          have HM := Lib.hid hm
          have HNZ : Hid ((m : Int) ≠ 0) := Lib.hid (by omega)
          have hm1 : ¬ (m : Int) < 1 := by omega
          have HQQ := Lib.hid hqq
          clear hm hL hqq
          go_wp2_with fail
          refine HO.out.mono ?_
          rintro e w1 ⟨wa, wk, rfl, h1⟩
          go_upto_if 46 with fail
          go_cut [8] from 47 to 50 (fun s wx => s = .int .i64 q ∧ wx = w1)
          case first =>
            rcases HQQ.out with ⟨hn1, hn2⟩ | ⟨hn1, hn2⟩
            · go_wp2_with fail
              go_meet
              exact ⟨by rw [hn2], rfl⟩
            · go_wp2_with fail
              go_meet
              exact ⟨by first | rfl | rw [hn2], rfl⟩
          case rest =>
            obtain ⟨rfl, rfl⟩ := hcut
            obtain ⟨x, hx⟩ : ∃ x, (ofP l [116])[q]? = some x := ⟨_, List.getElem?_eq_getElem (by rw [HM.out]; exact hq)⟩
            obtain ⟨A, B, hAB, hAq⟩ : ∃ A B, ofP l [116] = A ++ x :: B ∧ A.length = q := by
              obtain ⟨hl, hx⟩ := List.getElem?_eq_some_iff.1 hx
              refine ⟨(ofP l [116]).take q, (ofP l [116]).drop (q + 1), ?_, by simp; omega⟩
              rw [← hx, List.getElem_cons_drop, List.take_append_drop]
            obtain ⟨hg1, hg2, hg3, hg4⟩ := again hnd hAB
            obtain ⟨r, hr⟩ : ∃ r, B.length = r := ⟨_, rfl⟩
            have hmq : m = q + 1 + r := by rw [← HM.out, hAB]; simp; omega
            have hd1 : (dropP l [116] x).length ≤ l.length := List.length_filter_le _ _
            have hd2 : (addP (dropP l [116] x) [116] x).length ≤ 41 := by have := addP_le (dropP l [116] x) [116] x; omega
            obtain ⟨ab, ao, rfl, hel⟩ := elI h1.rowSl hx
            have he := hel _ _ (St.start _)
            rw [hAB] at h1
            have HAB := Lib.hid hAB
            have HQ := Lib.hid hAq
            have HR := Lib.hid hr
            have HMQ := Lib.hid hmq
            have HG4 := Lib.hid hg4
            have HD := Lib.hid (Drop_at p l (by omega) [116] x (dropP l [116] x) true rfl (by simpa using hg1) (h1.eq (B := star (IsR p l) (star (Row 3 1 (.slice (some ⟨ab, ao, none⟩) m wk) m ((A ++ x :: B).map kI)) emp)) (by ac_rfl)))
            have HH := fun w' h => Lib.hid (Hears_at (W := W) (w := w') (R := star (Row 3 1 (.slice (some ⟨ab, ao, none⟩) m wk) m ((A ++ x :: B).map kI)) emp) p (dropP l [116] x) (by omega) [116] x false (by simpa using hg2) h)
            have HA := fun w' h => Lib.hid (Add_at (W := W) (w := w') (R := star (Row 3 1 (.slice (some ⟨ab, ao, none⟩) m wk) m ((A ++ x :: B).map kI)) emp) p (dropP l [116] x) (by omega) [116] x (addP (dropP l [116] x) [116] x) 0 rfl (if_neg hg2) h)
            generalize hl2 : addP (dropP l [116] x) [116] x = l2 at *
            have hqI : (q : Int) < m := by omega
            have HH := Lib.hid HH
            have HA := Lib.hid HA
            clear hg1 hg2 hg3 hg4 hl2 hAB hel hx hr hAq HO HQQ hmq HNE
            go_wp2_with fail
            refine HD.out.mono ?_
            rintro e w3 ⟨rfl, h3⟩
            have HH := HH.out _ h3
            clear HD h1 he
            go_wp2_with fail
            refine HH.out.mono ?_
            rintro e w4 ⟨rfl, h4⟩
            have HA := HA.out _ h4
            clear HH h3
            go_wp2_with fail
            refine HA.out.mono ?_
            rintro e w5 ⟨rfl, h5⟩
            clear HA h4
            obtain ⟨wa, hwa⟩ : ∃ wa : Option Addr, some ⟨ab, ao, none⟩ = wa := ⟨_, rfl⟩
            rw [hwa] at h5 ⊢
            clear hwa
            go_upto_region 18 with fail
            go_cut [13] from 64 to 76 (fun s wx => ∃ (a : Option Addr) (c : Nat), s = .slice a m c ∧ St W wx (star (Row 3 1 (.slice a m c) m ((A ++ B ++ [x]).map kI)) (star (IsR p l2) emp)))
            case first =>
              obtain ⟨i0, hi0, hz0, hz1, hz2⟩ := info_parts infoI
              have U := Try.underlying22
              have HE1 : Hid (0 + q + r + 1 = m) := Lib.hid (by have := HMQ.out; omega)
              have HE2 : Hid ([] ++ A.map kI ++ B.map kI ++ [x].map kI = (A ++ B ++ [x]).map kI) := Lib.hid (by simp)
              have hmwk : m ≤ wk := by obtain ⟨_, _, _, hv, h, _⟩ := h5.right.rowSl; cases hv; exact h
              have hq1 := fun w => run_cut_h' (P := Try.prog) 22 3 1 Try.underlying22 (by kernel_rfl) wa m wk (q : Int) q rfl (by omega) w
              have hq2 := fun w => run_cut_l' (P := Try.prog) 22 3 1 Try.underlying22 (by kernel_rfl) wa m wk ((q : Int) + 1) (q + 1) (by omega) (by omega) w
              have hrm : q + r + 1 ≤ m := by have := HMQ.out; omega
              have hw1 : IntKind.i64.wrap ((q : Int) + 1) = (q : Int) + 1 := by rw [IntKind.wrap_i64]; omega
              refine wp_region_held (fun _ => True) [] tr18 (by kernel_rfl) (by kernel_rfl) trivial ?_
              have j0 := (h5.drew).eq (B := star (Row 3 1 (.slice wa m wk) m ((A ++ x :: B).map kI)) (star (IsR p l2) emp)) (by ac_rfl)
              generalize w5.drew = z0 at *
              unfold tr18
              clear h5
              refine tr_plain (.slice wa m wk) rfl ?_ (by simp only [nthOp, Act.put, List.setIfInBounds_toArray, List.set_cons_succ, List.set_cons_zero]; rfl) ?_
              · exact fun _ => rfl
              refine tr_plain (.int .i64 q) rfl ?_ (by simp only [nthOp, Act.put, List.setIfInBounds_toArray, List.set_cons_succ, List.set_cons_zero]; rfl) ?_
              · exact fun _ => rfl
              refine tr_plain (cutV wa wk 0 q 1) rfl ?_ (by simp only [nthOp, Act.put, List.setIfInBounds_toArray, List.set_cons_succ, List.set_cons_zero]; rfl) ?_
              · intro w'; simp only [nthOp]; go_simp
              refine tr_plain (.slice wa m wk) rfl ?_ (by simp only [nthOp, Act.put, List.setIfInBounds_toArray, List.set_cons_succ, List.set_cons_zero]; rfl) ?_
              · exact fun _ => rfl
              refine tr_plain (.int .i64 q) rfl ?_ (by simp only [nthOp, Act.put, List.setIfInBounds_toArray, List.set_cons_succ, List.set_cons_zero]; rfl) ?_
              · exact fun _ => rfl
              refine tr_plain (.int .i64 (q + 1 : Nat)) rfl ?_ (by simp only [nthOp, Act.put, List.setIfInBounds_toArray, List.set_cons_succ, List.set_cons_zero]; rfl) ?_
              · intro w'; simp only [nthOp]; go_simp
              refine tr_plain (cutV wa wk (q + 1) m 1) rfl ?_ (by simp only [nthOp, Act.put, List.setIfInBounds_toArray, List.set_cons_succ, List.set_cons_zero]; rfl) ?_
              · intro w'; simp only [nthOp]; go_simp
              refine tr_plain (.int .i64 x) rfl ?_ (by simp only [nthOp, Act.put, List.setIfInBounds_toArray, List.set_cons_succ, List.set_cons_zero]; rfl) ?_
              · exact fun _ => rfl
              refine tr_two ?_ ?_
              · have k1 := j0.alloc (.cells #[] 3)
                have k1 := St.mkRow (size := 1) (n := 0) (cap := 0) (xs := []) k1 (Nat.le_refl _) (Nat.zero_le _) rfl rfl
                simp only [nthOp]
                go_wp2_with fail
                simp only [Reg.Next]
                first | refine ⟨fun _ => trivial, ?_⟩ | refine ⟨trivial, ?_⟩ | refine ⟨fun h => (by simp at h), ?_⟩ | skip
                refine tr_two ?_ ?_
                · have k2 := k1.eq (B := star (Row 3 1 (.slice (some ⟨z0.heap.size, 0, none⟩) 0 0) 0 []) (star (Row 3 1 (.slice wa m wk) m ((A ++ x :: B).map kI)) (star (IsR p l2) emp))) (by ac_rfl)
                  have k3 := cutA (k2.eq (B := star (Row 3 1 (.slice wa m wk) m ((A ++ x :: B).map kI)) (star (Row 3 1 (.slice (some ⟨z0.heap.size, 0, none⟩) 0 0) 0 []) (star (IsR p l2) emp))) (by ac_rfl)).rowSl HQ.out
                  simp only [nthOp]
                  go_wp2_with (at_builtin; refine wpList_append_Sl rfl (.tmp 64) (.tmp 67) 22 rfl 3 i0 (.int .i64 0) 1 8 U hi0 hz0 hz1 hz2 rfl _ 0 [] rfl k2 _ q (A.map kI) rfl k3 (oneI _) (by unfold maxLen; omega) (by omega) ?_; intro v4 y4 k4 _)
                  simp only [Reg.Next]
                  first | refine ⟨fun _ => trivial, ?_⟩ | refine ⟨trivial, ?_⟩ | refine ⟨fun h => (by simp at h), ?_⟩ | skip
                  refine tr_two ?_ ?_
                  · have k5 := k4.eq (B := star (Row 3 1 v4 (0 + q) ([] ++ A.map kI)) (star (Row 3 1 (.slice wa m wk) m ((A ++ x :: B).map kI)) (star (IsR p l2) emp))) (by ac_rfl)
                    have k6 := cutB (k5.eq (B := star (Row 3 1 (.slice wa m wk) m ((A ++ x :: B).map kI)) (star (Row 3 1 v4 (0 + q) ([] ++ A.map kI)) (star (IsR p l2) emp))) (by ac_rfl)).rowSl HQ.out HR.out
                    simp only [nthOp]
                    go_wp2_with (at_builtin; refine wpList_append_Sl rfl (.tmp 68) (.tmp 72) 22 rfl 3 i0 (.int .i64 0) 1 8 U hi0 hz0 hz1 hz2 rfl _ (0 + q) ([] ++ A.map kI) rfl k5 _ r (B.map kI) rfl k6 (oneI _) (by unfold maxLen; omega) (by omega) ?_; intro v7 y7 k7 _)
                    simp only [Reg.Next]
                    first | refine ⟨fun _ => trivial, ?_⟩ | refine ⟨trivial, ?_⟩ | refine ⟨fun h => (by simp at h), ?_⟩ | skip
                    refine tr_one ?_
                    have k8 := k7.alloc (.cells #[.int .i64 x] 3)
                    simp only [nthOp]
                    go_wp2_with fail
                    simp only [Reg.Next]
                    first | refine ⟨fun _ => trivial, ?_⟩ | refine ⟨trivial, ?_⟩ | refine ⟨fun h => (by simp at h), ?_⟩ | skip
                    refine tr_one ?_
                    have k9 := k8.eq (B := star (Row 3 1 v7 (0 + q + r) ([] ++ A.map kI ++ B.map kI)) (star (pt y7.heap.size (.cells #[.int .i64 x] 3 (0, 0))) (star (Row 3 1 (.slice wa m wk) m ((A ++ x :: B).map kI)) (star (IsR p l2) emp)))) (by ac_rfl)
                    have k10 := litI (l := [x]) rfl (by simp) (k9.eq (B := star (pt y7.heap.size (.cells #[.int .i64 x] 3 (0, 0))) (star (Row 3 1 v7 (0 + q + r) ([] ++ A.map kI ++ B.map kI)) (star (Row 3 1 (.slice wa m wk) m ((A ++ x :: B).map kI)) (star (IsR p l2) emp)))) (by ac_rfl))
                    simp only [nthOp]
                    go_wp2_with (at_builtin; refine wpList_append_Sl rfl (.tmp 73) (.tmp 75) 22 rfl 3 i0 (.int .i64 0) 1 8 U hi0 hz0 hz1 hz2 rfl _ (0 + q + r) ([] ++ A.map kI ++ B.map kI) rfl k9 _ 1 ([x].map kI) rfl k10 (oneI _) (by unfold maxLen; omega) (by omega) ?_; intro v11 y11 k11 _)
                    simp only [Reg.Next]
                    first | refine ⟨fun _ => trivial, ?_⟩ | refine ⟨trivial, ?_⟩ | refine ⟨fun h => (by simp at h), ?_⟩ | skip
                    refine tr_plain v11 rfl ?_ (by simp only [nthOp, Act.put, List.setIfInBounds_toArray, List.set_cons_succ, List.set_cons_zero]; rfl) ?_
                    · exact fun _ => rfl
                    refine tr_done ?_
                    obtain ⟨_, a9, c9, rfl, _⟩ := id k11.rowSl
                    rw [HE1.out, HE2.out] at k11
                    go_wp2_with fail
                    go_meet
                    exact ⟨a9, c9, by rw [HE1.out], (k11.eq (B := star (star (pt y7.heap.size (.cells #[.int .i64 x] 3 (0, 0))) ((Row 3 1 (.slice wa m wk) m ((A ++ x :: B).map kI)))) (star (Row 3 1 (.slice a9 m c9) m ((A ++ B ++ [x]).map kI)) (star (IsR p l2) emp))) (by ac_rfl)).right⟩
                  · have k12 := k4.alloc (.cells #[.int .i64 x] 3)
                    simp only [nthOp]
                    go_wp2_with fail
                    simp only [Reg.Next]
                    first | refine ⟨fun _ => trivial, ?_⟩ | refine ⟨trivial, ?_⟩ | refine ⟨fun h => (by simp at h), ?_⟩ | skip
                    refine tr_one ?_
                    have k13 := k12.eq (B := star (Row 3 1 v4 (0 + q) ([] ++ A.map kI)) (star (pt y4.heap.size (.cells #[.int .i64 x] 3 (0, 0))) (star (Row 3 1 (.slice wa m wk) m ((A ++ x :: B).map kI)) (star (IsR p l2) emp)))) (by ac_rfl)
                    have k14 := cutB (k13.eq (B := star (Row 3 1 (.slice wa m wk) m ((A ++ x :: B).map kI)) (star (Row 3 1 v4 (0 + q) ([] ++ A.map kI)) (star (pt y4.heap.size (.cells #[.int .i64 x] 3 (0, 0))) (star (IsR p l2) emp)))) (by ac_rfl)).rowSl HQ.out HR.out
                    simp only [nthOp]
                    go_wp2_with (at_builtin; refine wpList_append_Sl rfl (.tmp 68) (.tmp 72) 22 rfl 3 i0 (.int .i64 0) 1 8 U hi0 hz0 hz1 hz2 rfl _ (0 + q) ([] ++ A.map kI) rfl k13 _ r (B.map kI) rfl k14 (oneI _) (by unfold maxLen; omega) (by omega) ?_; intro v15 y15 k15 _)
                    simp only [Reg.Next]
                    first | refine ⟨fun _ => trivial, ?_⟩ | refine ⟨trivial, ?_⟩ | refine ⟨fun h => (by simp at h), ?_⟩ | skip
                    refine tr_one ?_
                    have k16 := k15.eq (B := star (Row 3 1 v15 (0 + q + r) ([] ++ A.map kI ++ B.map kI)) (star (pt y4.heap.size (.cells #[.int .i64 x] 3 (0, 0))) (star (Row 3 1 (.slice wa m wk) m ((A ++ x :: B).map kI)) (star (IsR p l2) emp)))) (by ac_rfl)
                    have k17 := litI (l := [x]) rfl (by simp) (k16.eq (B := star (pt y4.heap.size (.cells #[.int .i64 x] 3 (0, 0))) (star (Row 3 1 v15 (0 + q + r) ([] ++ A.map kI ++ B.map kI)) (star (Row 3 1 (.slice wa m wk) m ((A ++ x :: B).map kI)) (star (IsR p l2) emp)))) (by ac_rfl))
                    simp only [nthOp]
                    go_wp2_with (at_builtin; refine wpList_append_Sl rfl (.tmp 73) (.tmp 75) 22 rfl 3 i0 (.int .i64 0) 1 8 U hi0 hz0 hz1 hz2 rfl _ (0 + q + r) ([] ++ A.map kI ++ B.map kI) rfl k16 _ 1 ([x].map kI) rfl k17 (oneI _) (by unfold maxLen; omega) (by omega) ?_; intro v18 y18 k18 _)
                    simp only [Reg.Next]
                    first | refine ⟨fun _ => trivial, ?_⟩ | refine ⟨trivial, ?_⟩ | refine ⟨fun h => (by simp at h), ?_⟩ | skip
                    refine tr_plain v18 rfl ?_ (by simp only [nthOp, Act.put, List.setIfInBounds_toArray, List.set_cons_succ, List.set_cons_zero]; rfl) ?_
                    · exact fun _ => rfl
                    refine tr_done ?_
                    obtain ⟨_, a9, c9, rfl, _⟩ := id k18.rowSl
                    rw [HE1.out, HE2.out] at k18
                    go_wp2_with fail
                    go_meet
                    exact ⟨a9, c9, by rw [HE1.out], (k18.eq (B := star (star (pt y4.heap.size (.cells #[.int .i64 x] 3 (0, 0))) ((Row 3 1 (.slice wa m wk) m ((A ++ x :: B).map kI)))) (star (Row 3 1 (.slice a9 m c9) m ((A ++ B ++ [x]).map kI)) (star (IsR p l2) emp))) (by ac_rfl)).right⟩
                · have k19 := k1.alloc (.cells #[.int .i64 x] 3)
                  simp only [World.size_alloc] at k19
                  simp only [nthOp]
                  go_wp2_with fail
                  simp only [Reg.Next]
                  first | refine ⟨fun _ => trivial, ?_⟩ | refine ⟨trivial, ?_⟩ | refine ⟨fun h => (by simp at h), ?_⟩ | skip
                  refine tr_one ?_
                  have k20 := k19.eq (B := star (Row 3 1 (.slice (some ⟨z0.heap.size, 0, none⟩) 0 0) 0 []) (star (pt (z0.heap.size + 1) (.cells #[.int .i64 x] 3 (0, 0))) (star (Row 3 1 (.slice wa m wk) m ((A ++ x :: B).map kI)) (star (IsR p l2) emp)))) (by ac_rfl)
                  have k21 := cutA (k20.eq (B := star (Row 3 1 (.slice wa m wk) m ((A ++ x :: B).map kI)) (star (Row 3 1 (.slice (some ⟨z0.heap.size, 0, none⟩) 0 0) 0 []) (star (pt (z0.heap.size + 1) (.cells #[.int .i64 x] 3 (0, 0))) (star (IsR p l2) emp)))) (by ac_rfl)).rowSl HQ.out
                  simp only [nthOp]
                  go_wp2_with (at_builtin; refine wpList_append_Sl rfl (.tmp 64) (.tmp 67) 22 rfl 3 i0 (.int .i64 0) 1 8 U hi0 hz0 hz1 hz2 rfl _ 0 [] rfl k20 _ q (A.map kI) rfl k21 (oneI _) (by unfold maxLen; omega) (by omega) ?_; intro v22 y22 k22 _)
                  simp only [Reg.Next]
                  first | refine ⟨fun _ => trivial, ?_⟩ | refine ⟨trivial, ?_⟩ | refine ⟨fun h => (by simp at h), ?_⟩ | skip
                  refine tr_one ?_
                  have k23 := k22.eq (B := star (Row 3 1 v22 (0 + q) ([] ++ A.map kI)) (star (pt (z0.heap.size + 1) (.cells #[.int .i64 x] 3 (0, 0))) (star (Row 3 1 (.slice wa m wk) m ((A ++ x :: B).map kI)) (star (IsR p l2) emp)))) (by ac_rfl)
                  have k24 := cutB (k23.eq (B := star (Row 3 1 (.slice wa m wk) m ((A ++ x :: B).map kI)) (star (Row 3 1 v22 (0 + q) ([] ++ A.map kI)) (star (pt (z0.heap.size + 1) (.cells #[.int .i64 x] 3 (0, 0))) (star (IsR p l2) emp)))) (by ac_rfl)).rowSl HQ.out HR.out
                  simp only [nthOp]
                  go_wp2_with (at_builtin; refine wpList_append_Sl rfl (.tmp 68) (.tmp 72) 22 rfl 3 i0 (.int .i64 0) 1 8 U hi0 hz0 hz1 hz2 rfl _ (0 + q) ([] ++ A.map kI) rfl k23 _ r (B.map kI) rfl k24 (oneI _) (by unfold maxLen; omega) (by omega) ?_; intro v25 y25 k25 _)
                  simp only [Reg.Next]
                  first | refine ⟨fun _ => trivial, ?_⟩ | refine ⟨trivial, ?_⟩ | refine ⟨fun h => (by simp at h), ?_⟩ | skip
                  refine tr_one ?_
                  have k26 := k25.eq (B := star (Row 3 1 v25 (0 + q + r) ([] ++ A.map kI ++ B.map kI)) (star (pt (z0.heap.size + 1) (.cells #[.int .i64 x] 3 (0, 0))) (star (Row 3 1 (.slice wa m wk) m ((A ++ x :: B).map kI)) (star (IsR p l2) emp)))) (by ac_rfl)
                  have k27 := litI (l := [x]) rfl (by simp) (k26.eq (B := star (pt (z0.heap.size + 1) (.cells #[.int .i64 x] 3 (0, 0))) (star (Row 3 1 v25 (0 + q + r) ([] ++ A.map kI ++ B.map kI)) (star (Row 3 1 (.slice wa m wk) m ((A ++ x :: B).map kI)) (star (IsR p l2) emp)))) (by ac_rfl))
                  simp only [nthOp]
                  go_wp2_with (at_builtin; refine wpList_append_Sl rfl (.tmp 73) (.tmp 75) 22 rfl 3 i0 (.int .i64 0) 1 8 U hi0 hz0 hz1 hz2 rfl _ (0 + q + r) ([] ++ A.map kI ++ B.map kI) rfl k26 _ 1 ([x].map kI) rfl k27 (oneI _) (by unfold maxLen; omega) (by omega) ?_; intro v28 y28 k28 _)
                  simp only [Reg.Next]
                  first | refine ⟨fun _ => trivial, ?_⟩ | refine ⟨trivial, ?_⟩ | refine ⟨fun h => (by simp at h), ?_⟩ | skip
                  refine tr_plain v28 rfl ?_ (by simp only [nthOp, Act.put, List.setIfInBounds_toArray, List.set_cons_succ, List.set_cons_zero]; rfl) ?_
                  · exact fun _ => rfl
                  refine tr_done ?_
                  obtain ⟨_, a9, c9, rfl, _⟩ := id k28.rowSl
                  rw [HE1.out, HE2.out] at k28
                  go_wp2_with fail
                  go_meet
                  exact ⟨a9, c9, by rw [HE1.out], (k28.eq (B := star (star (pt (z0.heap.size + 1) (.cells #[.int .i64 x] 3 (0, 0))) ((Row 3 1 (.slice wa m wk) m ((A ++ x :: B).map kI)))) (star (Row 3 1 (.slice a9 m c9) m ((A ++ B ++ [x]).map kI)) (star (IsR p l2) emp))) (by ac_rfl)).right⟩
              · have k29 := j0.alloc (.cells #[.int .i64 x] 3)
                simp only [nthOp]
                go_wp2_with fail
                simp only [Reg.Next]
                first | refine ⟨fun _ => trivial, ?_⟩ | refine ⟨trivial, ?_⟩ | refine ⟨fun h => (by simp at h), ?_⟩ | skip
                refine tr_one ?_
                have k30 := k29.alloc (.cells #[] 3)
                simp only [World.size_alloc] at k30
                have k30 := St.mkRow (size := 1) (n := 0) (cap := 0) (xs := []) k30 (Nat.le_refl _) (Nat.zero_le _) rfl rfl
                simp only [nthOp]
                go_wp2_with fail
                simp only [Reg.Next]
                first | refine ⟨fun _ => trivial, ?_⟩ | refine ⟨trivial, ?_⟩ | refine ⟨fun h => (by simp at h), ?_⟩ | skip
                refine tr_one ?_
                have k31 := k30.eq (B := star (Row 3 1 (.slice (some ⟨(z0.heap.size + 1), 0, none⟩) 0 0) 0 []) (star (pt z0.heap.size (.cells #[.int .i64 x] 3 (0, 0))) (star (Row 3 1 (.slice wa m wk) m ((A ++ x :: B).map kI)) (star (IsR p l2) emp)))) (by ac_rfl)
                have k32 := cutA (k31.eq (B := star (Row 3 1 (.slice wa m wk) m ((A ++ x :: B).map kI)) (star (Row 3 1 (.slice (some ⟨(z0.heap.size + 1), 0, none⟩) 0 0) 0 []) (star (pt z0.heap.size (.cells #[.int .i64 x] 3 (0, 0))) (star (IsR p l2) emp)))) (by ac_rfl)).rowSl HQ.out
                simp only [nthOp]
                go_wp2_with (at_builtin; refine wpList_append_Sl rfl (.tmp 64) (.tmp 67) 22 rfl 3 i0 (.int .i64 0) 1 8 U hi0 hz0 hz1 hz2 rfl _ 0 [] rfl k31 _ q (A.map kI) rfl k32 (oneI _) (by unfold maxLen; omega) (by omega) ?_; intro v33 y33 k33 _)
                simp only [Reg.Next]
                first | refine ⟨fun _ => trivial, ?_⟩ | refine ⟨trivial, ?_⟩ | refine ⟨fun h => (by simp at h), ?_⟩ | skip
                refine tr_one ?_
                have k34 := k33.eq (B := star (Row 3 1 v33 (0 + q) ([] ++ A.map kI)) (star (pt z0.heap.size (.cells #[.int .i64 x] 3 (0, 0))) (star (Row 3 1 (.slice wa m wk) m ((A ++ x :: B).map kI)) (star (IsR p l2) emp)))) (by ac_rfl)
                have k35 := cutB (k34.eq (B := star (Row 3 1 (.slice wa m wk) m ((A ++ x :: B).map kI)) (star (Row 3 1 v33 (0 + q) ([] ++ A.map kI)) (star (pt z0.heap.size (.cells #[.int .i64 x] 3 (0, 0))) (star (IsR p l2) emp)))) (by ac_rfl)).rowSl HQ.out HR.out
                simp only [nthOp]
                go_wp2_with (at_builtin; refine wpList_append_Sl rfl (.tmp 68) (.tmp 72) 22 rfl 3 i0 (.int .i64 0) 1 8 U hi0 hz0 hz1 hz2 rfl _ (0 + q) ([] ++ A.map kI) rfl k34 _ r (B.map kI) rfl k35 (oneI _) (by unfold maxLen; omega) (by omega) ?_; intro v36 y36 k36 _)
                simp only [Reg.Next]
                first | refine ⟨fun _ => trivial, ?_⟩ | refine ⟨trivial, ?_⟩ | refine ⟨fun h => (by simp at h), ?_⟩ | skip
                refine tr_one ?_
                have k37 := k36.eq (B := star (Row 3 1 v36 (0 + q + r) ([] ++ A.map kI ++ B.map kI)) (star (pt z0.heap.size (.cells #[.int .i64 x] 3 (0, 0))) (star (Row 3 1 (.slice wa m wk) m ((A ++ x :: B).map kI)) (star (IsR p l2) emp)))) (by ac_rfl)
                have k38 := litI (l := [x]) rfl (by simp) (k37.eq (B := star (pt z0.heap.size (.cells #[.int .i64 x] 3 (0, 0))) (star (Row 3 1 v36 (0 + q + r) ([] ++ A.map kI ++ B.map kI)) (star (Row 3 1 (.slice wa m wk) m ((A ++ x :: B).map kI)) (star (IsR p l2) emp)))) (by ac_rfl))
                simp only [nthOp]
                go_wp2_with (at_builtin; refine wpList_append_Sl rfl (.tmp 73) (.tmp 75) 22 rfl 3 i0 (.int .i64 0) 1 8 U hi0 hz0 hz1 hz2 rfl _ (0 + q + r) ([] ++ A.map kI ++ B.map kI) rfl k37 _ 1 ([x].map kI) rfl k38 (oneI _) (by unfold maxLen; omega) (by omega) ?_; intro v39 y39 k39 _)
                simp only [Reg.Next]
                first | refine ⟨fun _ => trivial, ?_⟩ | refine ⟨trivial, ?_⟩ | refine ⟨fun h => (by simp at h), ?_⟩ | skip
                refine tr_plain v39 rfl ?_ (by simp only [nthOp, Act.put, List.setIfInBounds_toArray, List.set_cons_succ, List.set_cons_zero]; rfl) ?_
                · exact fun _ => rfl
                refine tr_done ?_
                obtain ⟨_, a9, c9, rfl, _⟩ := id k39.rowSl
                rw [HE1.out, HE2.out] at k39
                go_wp2_with fail
                go_meet
                exact ⟨a9, c9, by rw [HE1.out], (k39.eq (B := star (star (pt z0.heap.size (.cells #[.int .i64 x] 3 (0, 0))) ((Row 3 1 (.slice wa m wk) m ((A ++ x :: B).map kI)))) (star (Row 3 1 (.slice a9 m c9) m ((A ++ B ++ [x]).map kI)) (star (IsR p l2) emp))) (by ac_rfl)).right⟩
            case rest =>
              obtain ⟨a9, c9, rfl, h9⟩ := hcut
              have HLM : Hid ((A ++ B ++ [x]).length = m) := Lib.hid (by have := HMQ.out; have := HQ.out; have := HR.out; simp; omega)
              have HO := Lib.hid (of_any p l2 (by omega) [116] 1000 (by decide) (by decide) (A ++ B ++ [x]) (by rw [HG4.out]; exact List.take_of_length_le (by rw [HLM.out]; omega)) 1000 rfl (h9.eq (B := star (IsR p l2) (star (Row 3 1 (.slice a9 m c9) m ((A ++ B ++ [x]).map kI)) emp)) (by ac_rfl)))
              unfold OPst at HO
              rw [HLM.out] at HO
              clear h5
              go_wp2_with fail
              refine HO.out.mono ?_
              rintro e w10 ⟨a10, c10, rfl, h10⟩
              have HSI := Lib.hid (sameI_any (A ++ B ++ [x]) (A ++ B ++ [x]) _ a10 m c10 a9 m c9 HLM.out HLM.out (by omega) h10.rowSl (h10.eq (B := star (Row 3 1 (.slice a9 m c9) m ((A ++ B ++ [x]).map kI)) (star (Row 3 1 (.slice a10 m c10) m ((A ++ B ++ [x]).map kI)) (star (IsR p l2) emp))) (by ac_rfl)).rowSl)
              rw [decide_eq_true rfl] at HSI
              clear HO h9
              go_wp2_with fail
              refine HSI.out.mono ?_
              rintro e w11 hq
              have h11 := h10.makes hq
              obtain ⟨rfl, -⟩ := hq
              have HWK := Lib.hid (wakes_any w11)
              clear HSI h10
              go_wp2_with fail
              refine HWK.out.mono ?_
              rintro e w12 hq
              have h12 := h11.makes hq
              obtain ⟨rfl, -⟩ := hq
              go_wp2
              go_ret
              exact ⟨rfl, h12.forget⟩
    · have g1 : ¬ (40 : Int) < len0 := by omega
      have g2 : (len0 : Int) < 1 := by omega
      go_wp2_with fail
      refine HWK.out.mono ?_
      rintro e w9 hq
      have h9 := (St.start W).makes hq
      obtain ⟨rfl, -⟩ := hq
      go_wp2
      go_ret
      exact ⟨rfl, h9.forget⟩
  · have g1 : (40 : Int) < len0 := by omega
    go_wp2_with fail
    refine HWK.out.mono ?_
    rintro e w9 hq
    have h9 := (St.start W).makes hq
    obtain ⟨rfl, -⟩ := hq
    go_wp2
    go_ret
    exact ⟨rfl, h9.forget⟩
end Go.Proofs.Ythaekkmnglhinaa.TpX
