import Derived.Test.YthaekkmnglhinaaTpQ
import Derived.Deep.Cut
import Derived.Deep.CutRange
import Derived.Deep.CutBlock
namespace Go.Proofs.Ythaekkmnglhinaa.TpQ2
open Go Go.RowKit Go.Proofs Go.Proofs.Ythaekkmnglhinaa.Sep Go.Proofs.Ythaekkmnglhinaa.Reg Go.Proofs.Ythaekkmnglhinaa.Frame Go.Proofs.Ythaekkmnglhinaa.Slc Go.Proofs.Ythaekkmnglhinaa.Sure Go.Proofs.Ythaekkmnglhinaa.TpP Go.Proofs.Ythaekkmnglhinaa.TpA Go.Proofs.Ythaekkmnglhinaa.TpI Go.Proofs.Ythaekkmnglhinaa.TpL Go.Proofs.Ythaekkmnglhinaa.TpM Go.Proofs.Ythaekkmnglhinaa.TpN Go.Proofs.Ythaekkmnglhinaa.TpT Go.Proofs.Ythaekkmnglhinaa.TpQ

set_option maxRecDepth 100000 in
set_option maxHeartbeats 8000000 in
theorem rDrop_any (v : Value) (l : List Pr) (n : Nat) (hn : l.length = n) (hn1 : n ≤ 1000000) (i : Nat) (hi : i < n) {W w : World} {R : Asn} (h : St W w (star (Row 39 2 v n (psV l)) R)) :
    Calls Try.prog 18 #[v, .int .i64 i] w fun e w' => ∃ v', e = .returned v' ∧ St W w' (star (Row 39 2 v' (n - 1) (psV (l.take i ++ l.drop (i + 1)))) (star (Row 39 2 v n (psV l)) R)) := by
  obtain ⟨i0, hi0, hz0, hz1, hz2⟩ := info_parts infoP
  obtain ⟨hxl, hv⟩ := h.row
  rcases hv with ⟨rfl, h0, _⟩ | ⟨g, cap, cur, rfl, hnc, hcm, hcs, htk, hg⟩
  · omega
  have hcm2 : cap ≤ 9223372036854775807 := by simpa [maxLen] using hcm
  have U := Try.underlying34
  have hs1 := run_head (P := Try.prog) 34 39 2 U infoP2 g n cap i (by omega) (i : Int) rfl
  have hs2 := run_cut_l' (P := Try.prog) 34 39 2 U infoP2 (some ⟨g, 0, none⟩) n cap ((i : Int) + 1) (i + 1) (by omega) (by omega)
  obtain ⟨ua, uc, hu⟩ : ∃ ua uc, cutV (some ⟨g, 0, none⟩) cap (i + 1) n 2 = .slice ua (n - (i + 1)) uc := ⟨_, _, rfl⟩
  rw [hu] at hs2
  have h1 := ((h.alloc (.cells #[] 39))).drew
  have h2 := St.mkRow (size := 2) (n := 0) (cap := 0) (xs := []) h1 (Nat.le_refl _) (Nat.zero_le _) rfl rfl
  have hti : cur.toList.take (i * 2) = psV (l.take i) := by
    have : cur.toList.take (i * 2) = (cur.toList.take (n * 2)).take (i * 2) := by rw [List.take_take]; congr 1; omega
    rw [this, htk, psV_take]
  have hA : Sl (w.alloc (.cells #[] 39)).drew 2 (.slice (some ⟨g, 0, none⟩) i cap) i (psV (l.take i)) := (St.mkRow (size := 2) (n := i) (cap := cap) (xs := psV (l.take i)) ((hg.alloc (.cells #[] 39)).drew.right) (by omega) hcm hcs hti).rowSl
  have hcl : (psV (l.drop (i + 1))).length = (n - (i + 1)) * 2 := by rw [psV_length]; simp; omega
  have hnews : ((psV l).drop ((i + 1) * 2)).take ((n - (i + 1)) * 2) = psV (l.drop (i + 1)) := by
    rw [psV_drop, List.take_of_length_le (by rw [hcl]; omega)]
  have HC : Hid (∀ w' A, St W w' (star A (star (Row 39 2 (.slice (some ⟨g, 0, none⟩) n cap) n (psV l)) R)) → Sl w' 2 (.slice ua (n - (i + 1)) uc) (n - (i + 1)) (psV (l.drop (i + 1)))) := Lib.hid (fun w' A hq => by
    have := hq.right.rowSl.cut (i + 1) n (by omega) (Nat.le_refl _)
    rw [hu, hnews] at this
    exact this)
  have HX : Hid (psV (l.take i) ++ psV (l.drop (i + 1)) = psV (l.take i ++ l.drop (i + 1))) := Lib.hid (by rw [psV_append])
  have HN : Hid (i + (n - (i + 1)) = n - 1) := Lib.hid (by omega)
  have HI : Hid ((i : Int) + 1 = IntKind.i64.wrap ((i : Int) + 1)) := Lib.hid (by rw [IntKind.wrap_i64]; omega)
  clear hu hti hcl hnews hxl htk hcs hg h
  go_enter Try.func18, Try.ntmps18
  go_wp2_with fail
  refine wp_region_sure [6, 7] [(false, [1, 2, 3, 5, 8, 0, 4, 9, 10])] (by kernel_rfl) (by kernel_rfl) ?_
  simp only [wpSure, wpSegs, pickOps, nthOp]
  refine ⟨trivial, .int .i64 i, fun w => rfl, trivial, .int .i64 ((i : Int) + 1), fun w => ?_, ?_⟩
  · rw [HI.out]; rfl
  go_wp2_with (at_builtin; first | (refine wpList_append_Sl rfl (.tmp 9) (.tmp 13) 34 rfl 39 i0 zP 2 24 U hi0 hz0 hz1 hz2 rfl _ i (psV (l.take i)) rfl hS9 _ (n - (i + 1)) (psV (l.drop (i + 1))) rfl hC9 (psV_one _) (by unfold maxLen; omega) (by omega) ?_; intro v8 w8 hS8 hv8; rw [HN.out, HX.out] at hS8; obtain ⟨_, a8, c8, rfl, _⟩ := id hS8.rowSl) | (refine wpList_append_Sl rfl (.tmp 5) (.tmp 8) 34 rfl 39 i0 zP 2 24 U hi0 hz0 hz1 hz2 rfl _ 0 [] rfl h2 _ i (psV (l.take i)) rfl hA (psV_one _) (by unfold maxLen; omega) (by omega) ?_; intro v9 w9 hS9 hv9; rw [Nat.zero_add, List.nil_append] at hS9; obtain ⟨_, a9, c9, rfl, _⟩ := id hS9.rowSl; have hC9 := HC.out _ _ hS9))
  simp only [Reg.Next]
  go_wp2
  go_ret
  exact ⟨_, rfl, hS8⟩

/-! ### Topics, one put into its place. -/
def cnt (o : List Tx) (t : Tx) (k : Nat) : Nat := ((o.take k).filter fun s => decide (s < t)).length
theorem cnt_le (o : List Tx) (t : Tx) (k : Nat) : cnt o t k ≤ k := Nat.le_trans (List.length_filter_le _ _) (by simp; omega)
theorem cnt_less {o : List Tx} (h : Rise o) {t s : Tx} {k : Nat} (hs : o[k]? = some s) (hl : s < t) : cnt o t (k + 1) = k + 1 := by
  unfold cnt
  rw [List.filter_eq_self.2 fun y hy => by
    obtain ⟨j, hj⟩ := List.getElem?_of_mem hy
    rw [List.getElem?_take] at hj
    split at hj
    · rename_i hjk
      obtain ⟨h1, e1⟩ := List.getElem?_eq_some_iff.1 hj
      obtain ⟨h2, e2⟩ := List.getElem?_eq_some_iff.1 hs
      by_cases hjk2 : j = k
      · subst hjk2; rw [e1] at e2; subst e2; simpa using hl
      · have := List.pairwise_iff_getElem.1 h j k h1 h2 (by omega)
        rw [e1, e2] at this
        simpa using List.lt_trans this hl
    · cases hj]
  rw [List.length_take]
  have := (List.getElem?_eq_some_iff.1 hs).1
  omega
theorem cnt_not {o : List Tx} {t s : Tx} {k : Nat} (hs : o[k]? = some s) (hl : ¬ s < t) : cnt o t (k + 1) = cnt o t k := by
  unfold cnt
  rw [List.take_add_one, hs, List.filter_append]
  simp [hl]
theorem rise_split {t : Tx} : ∀ {o : List Tx}, Rise o → o.take (cnt o t o.length) = o.filter (fun s => decide (s < t)) ∧ o.drop (cnt o t o.length) = o.filter (fun s => decide (¬ s < t))
  | [], _ => ⟨rfl, rfl⟩
  | s :: o, h => by
    have ih := rise_split (t := t) (o := o) (List.pairwise_cons.1 h).2
    unfold cnt at ih ⊢
    rw [List.take_length] at ih ⊢
    by_cases hs : s < t
    · rw [List.filter_cons_of_pos (by simpa using hs), List.filter_cons_of_neg (by simpa using hs), List.length_cons, List.take_succ_cons, List.drop_succ_cons, ih.1, ih.2]
      exact ⟨rfl, rfl⟩
    · have hz : o.filter (fun s => decide (s < t)) = [] := List.filter_eq_nil_iff.2 fun y hy => by
        have := (List.pairwise_cons.1 h).1 y hy
        simp only [decide_eq_true_eq]
        exact fun hy => hs (List.lt_trans this hy)
      have hy : o.filter (fun s => decide (¬ s < t)) = o := List.filter_eq_self.2 fun y hy => by
        have h1 := (List.pairwise_cons.1 h).1 y hy
        simp only [decide_eq_true_eq]
        exact fun hy => hs (List.lt_trans h1 hy)
      rw [List.filter_cons_of_neg (by simpa using hs), List.filter_cons_of_pos (by simpa using hs), hz, hy]
      exact ⟨rfl, rfl⟩
theorem rise_ins {t : Tx} {o : List Tx} (h : Rise o) (hn : t ∉ o) : Rise (o.take (cnt o t o.length) ++ t :: o.drop (cnt o t o.length)) := by
  rw [(rise_split h).1, (rise_split h).2]
  unfold Rise
  rw [List.pairwise_append, List.pairwise_cons]
  refine ⟨h.filter _, ⟨fun y hy => ?_, h.filter _⟩, fun y hy z hz => ?_⟩
  · obtain ⟨hy, h2⟩ := List.mem_filter.1 hy
    rcases List.le_iff_lt_or_eq.1 (List.not_lt.1 (by simpa using h2)) with h3 | h3
    · exact h3
    · exact absurd (h3 ▸ hy) hn
  · obtain ⟨hy, h1⟩ := List.mem_filter.1 hy
    have h1 : y < t := by simpa using h1
    rcases List.mem_cons.1 hz with rfl | hz
    · exact h1
    · obtain ⟨hz, h2⟩ := List.mem_filter.1 hz
      rcases List.le_iff_lt_or_eq.1 (List.not_lt.1 (by simpa using h2)) with h3 | h3
      · exact List.lt_trans h1 h3
      · exact h3 ▸ h1
theorem tops_step {l : List Pr} {i : Nat} {x : Pr} (hx : l[i]? = some x) (y : Tx) : y ∈ topicsP (l.take (i + 1)) ↔ y ∈ topicsP (l.take i) ∨ y = x.1 := by
  rw [mem_topicsP, mem_topicsP, List.take_add_one, hx]
  constructor
  · rintro ⟨k, hk⟩
    rcases List.mem_append.1 hk with h | h
    · exact .inl ⟨k, h⟩
    · simp at h; exact .inr (by rw [← h])
  · rintro (⟨k, hk⟩ | rfl)
    · exact ⟨k, List.mem_append_left _ hk⟩
    · exact ⟨x.2, by simp⟩
theorem tops_same {l : List Pr} {i : Nat} {x : Pr} (hx : l[i]? = some x) (h : x.1 ∈ topicsP (l.take i)) : topicsP (l.take (i + 1)) = topicsP (l.take i) :=
  rise_unique (topicsP_rise _) (topicsP_rise _) fun y => by rw [tops_step hx]; exact ⟨fun h' => h'.elim id (fun e => e ▸ h), .inl⟩
theorem tops_ins {l : List Pr} {i : Nat} {x : Pr} (hx : l[i]? = some x) (h : x.1 ∉ topicsP (l.take i)) :
    topicsP (l.take (i + 1)) = (topicsP (l.take i)).take (cnt (topicsP (l.take i)) x.1 (topicsP (l.take i)).length) ++ x.1 :: (topicsP (l.take i)).drop (cnt (topicsP (l.take i)) x.1 (topicsP (l.take i)).length) :=
  rise_unique (topicsP_rise _) (rise_ins (topicsP_rise _) h) fun y => by
    rw [tops_step hx, List.mem_append, List.mem_cons]
    have : y ∈ topicsP (l.take i) ↔ y ∈ (topicsP (l.take i)).take (cnt (topicsP (l.take i)) x.1 (topicsP (l.take i)).length) ∨ y ∈ (topicsP (l.take i)).drop (cnt (topicsP (l.take i)) x.1 (topicsP (l.take i)).length) := by
      rw [← List.mem_append, List.take_append_drop]
    rw [this]
    constructor
    · rintro ((h | h) | h)
      · exact .inl h
      · exact .inr (.inr h)
      · exact .inr (.inl h)
    · rintro (h | h | h)
      · exact .inl (.inl h)
      · exact .inr h
      · exact .inl (.inr h)
theorem cutS {w : World} {a : Option Addr} {n c : Nat} {l : List Tx} (h : Sl w 1 (.slice a n c) n (l.map kS)) (i j : Nat) (h1 : i ≤ j) (h2 : j ≤ n) : Sl w 1 (cutV a c i j 1) (j - i) (((l.drop i).take (j - i)).map kS) := by
  have := h.cut i j h1 h2
  rwa [Nat.mul_one, Nat.mul_one, ← List.map_drop, ← List.map_take] at this
theorem less_lt : ∀ (a b : List UInt8), Op.bytesLess a b = decide (a < b)
  | _, [] => by cases ‹List UInt8› <;> simp [Op.bytesLess]
  | [], _ :: _ => by simp [Op.bytesLess]
  | x :: a, y :: b => by
    have ih := less_lt a b
    simp only [Op.bytesLess, ih, List.cons_lt_cons_iff]
    by_cases h : x < y
    · simp [h]
    · by_cases h2 : x = y <;> simp [h, h2]
theorem elS_at {w : World} {b o n c : Nat} {l : List Tx} (h : Sl w 1 (.slice (some ⟨b, o, none⟩) n c) n (l.map kS)) {i : Nat} {x : Tx} (hx : l[i]? = some x) : w.cell? ⟨b, o + i, none⟩ = some (kS x) := by
  obtain ⟨ab, ao, e, hc⟩ := elS h hx
  cases e
  exact hc _ _ (St.start _)

set_option maxRecDepth 100000 in
set_option maxHeartbeats 8000000 in
theorem rTopics_any (a : Option Addr) (n c : Nat) (l : List Pr) (hn : l.length = n) (hn1 : n ≤ 1000000) {W w : World} {R : Asn} (h : St W w R) (hsl : Sl w 2 (.slice a n c) n (psV l)) :
    Calls Try.prog 25 #[.slice a n c] w fun e w' => ∃ a' c', e = .returned (.slice a' (topicsP l).length c') ∧ St W w' (star (Row 9 1 (.slice a' (topicsP l).length c') (topicsP l).length ((topicsP l).map kS)) R) := by
  have HSL := Lib.hid hsl
  have HL := Lib.hid hn
  clear hsl hn
  go_enter Try.func25, Try.ntmps25
  go_wp2_with fail
  go_loopw [3, 4] (fun ov iv wr => ∃ i : Nat, i ≤ n ∧ iv = .int .i64 i ∧ St w wr (Row 9 1 ov (topicsP (l.take i)).length ((topicsP (l.take i)).map kS))) (fun _ iv _ => n - (intOf iv).toNat)
  case atStart => exact ⟨0, Nat.zero_le _, rfl, by rw [show topicsP (l.take 0) = [] from by simp [topicsP, topsP]]; exact ((St.start w).nilRow (e := 9) (size := 1)).eq (star_emp _)⟩
  case round =>
    obtain ⟨i, hi, rfl, hS⟩ := hrel
    rw [← star_emp (Row _ _ _ _ _)] at hS
    obtain ⟨_, va, vk, rfl, _⟩ := id hS.rowSl
    by_cases hin : i < n
    · obtain ⟨x, hx⟩ : ∃ x, l[i]? = some x := ⟨_, List.getElem?_eq_getElem (by rw [HL.out]; exact hin)⟩
      obtain ⟨ab, ao, rfl, hel⟩ := elP HSL.out hx
      have hinI : (i : Int) < n := by omega
      have HSAME := Lib.hid (tops_same hx)
      have HINS := Lib.hid (tops_ins hx)
      have hol := topicsP_le (l.take i)
      have hol2 : (l.take i).length ≤ i := by simp; omega
      have HRI := Lib.hid (topicsP_rise (l.take i))
      obtain ⟨t, tk⟩ := x
      have HEL := Lib.hid hel
      dsimp only at HSAME HINS
      obtain ⟨o, ho⟩ : ∃ o, topicsP (l.take i) = o := ⟨_, rfl⟩
      rw [ho] at hS hol HRI HSAME HINS ⊢
      obtain ⟨m, hm⟩ : ∃ m, o.length = m := ⟨_, rfl⟩
      rw [hm] at hS hol HINS ⊢
      have HM := Lib.hid hm
      have hmI : m ≤ 1000000 := by omega
      clear hel hx hm ho
      go_wp2_with fail
      go_loopw [5, 6, 7] (fun av thv kv wr => ∃ k : Nat, k ≤ m ∧ kv = .int .i64 k ∧ av = .int .i64 (cnt o t k : Nat) ∧ thv = .bool (decide (t ∈ o.take k)) ∧ St w wr (star (Row 9 1 (.slice va m vk) m (o.map kS)) emp)) (fun _ _ kv _ => m - (intOf kv).toNat)
      case atStart => exact ⟨0, Nat.zero_le _, rfl, rfl, by simp, hS⟩
      case round =>
        obtain ⟨k, hk, rfl, rfl, rfl, hS⟩ := hrel
        by_cases hkm : k < m
        · obtain ⟨s, hs⟩ : ∃ s, o[k]? = some s := ⟨_, List.getElem?_eq_getElem (by rw [HM.out]; exact hkm)⟩
          obtain ⟨vb, vq, rfl, -⟩ := elS hS.rowSl hs
          have c1 := elS_at hS.drew.rowSl hs
          have c2 := elS_at hS.drew.drew.rowSl hs
          have c3 := (HEL.out _ _ hS.drew).1
          have c4 := (HEL.out _ _ hS.drew.drew).1
          have hkmI : (k : Int) < m := by omega
          have HMS : Hid (decide (t ∈ o.take (k + 1)) = (decide (t ∈ o.take k) || (s == t))) := Lib.hid (by
            rw [List.take_add_one, hs]
            by_cases h1 : t ∈ o.take k
            · simp [h1]
            · by_cases h2 : s = t
              · simp [h2]
              · simp [h1, h2, Ne.symm h2])
          have HLT : Hid (∀ b, decide (s < t) = b → cnt o t (k + 1) = if b then k + 1 else cnt o t k) := Lib.hid (by
            rintro b rfl
            by_cases h : s < t
            · rw [decide_eq_true h, if_pos rfl]; exact cnt_less HRI.out hs h
            · rw [decide_eq_false h, if_neg (by simp)]; exact cnt_not hs h)
          clear hs
          obtain ⟨b, hb⟩ : ∃ b, Op.bytesLess s t = b := ⟨_, rfl⟩
          have hlt := HLT.out b (by rw [← less_lt]; exact hb)
          obtain ⟨e, he⟩ : ∃ e, (s == t) = e := ⟨_, rfl⟩
          rw [he] at HMS
          have HB := Lib.hid hlt
          clear hlt HLT
          cases hth : decide (t ∈ o.take k) <;> cases b <;> cases e
          all_goals
            rw [hth] at HMS
            clear hth
            go_wp2_with fail
            refine wp_region_canon [0, 1, 2, 3, 4, 5, 6, 7, 8, 9, 10, 11, 12, 13] (by kernel_rfl) (by kernel_rfl) ?_
            simp only [pickOps, nthOp]
            go_wp2_with fail
            simp only [Only]
            go_wp2_with fail
            refine wp_region_canon [0, 1, 2, 3, 4, 5, 6, 7, 8, 9] (by kernel_rfl) (by kernel_rfl) ?_
            simp only [pickOps, nthOp]
            go_wp2_with fail
            simp only [Only]
            go_wp2_with fail
            exact ⟨⟨k + 1, hkm, by go_num, by rw [HB.out]; first | rfl | go_num, by rw [HMS.out]; rfl, hS.drew.drew⟩, by simp [intOf]; omega⟩
        · obtain rfl : m = k := by omega
          have htk : o.take m = o := List.take_of_length_le (by rw [HM.out]; exact Nat.le_refl _)
          rw [htk]
          have hpl := cnt_le o t m
          by_cases hto : t ∈ o
          · have hs := HSAME.out hto
            have HS2 := Lib.hid hs
            rw [decide_eq_true hto]
            clear hs hto htk
            go_wp2_with fail
            exact ⟨⟨i + 1, hin, by go_num, by rw [HS2.out, HM.out]; exact hS.eq (star_emp _)⟩, by simp [intOf]; omega⟩
          · have hs := HINS.out hto
            rw [decide_eq_false hto]
            obtain ⟨p, hp⟩ : ∃ p, cnt o t m = p := ⟨_, rfl⟩
            rw [hp] at hs hpl ⊢
            have HS2 := Lib.hid hs
            obtain ⟨i0, hi0, hz0, hz1, hz2⟩ := info_parts infoS
            have U := Try.underlying41
            have hmvk : m ≤ vk ∧ vk ≤ 9223372036854775807 := by obtain ⟨_, _, _, hv, h, h2, _⟩ := hS.rowSl; cases hv; exact ⟨h, by simpa [maxLen] using h2⟩
            have hq1 := fun w => run_cut_h' (P := Try.prog) 41 9 1 Try.underlying41 (by kernel_rfl) va m vk (p : Int) p rfl (by omega) w
            have hq2 := fun w => run_cut_l' (P := Try.prog) 41 9 1 Try.underlying41 (by kernel_rfl) va m vk (p : Int) p rfl (by omega) w
            have h2 := hS.alloc (.cells #[] 9)
            have h3 := St.mkRow (size := 1) (n := 0) (cap := 0) (xs := []) h2 (Nat.le_refl _) (Nat.zero_le _) rfl rfl
            have hA := cutS h3.right.rowSl 0 p (Nat.zero_le _) hpl
            have c1 := (HEL.out _ _ hS).1
            clear hs hto htk h2 hp
            go_wp2_with (at_builtin; first
              | (refine wpList_append_Sl rfl (.tmp 60) (.tmp 63) 41 rfl 9 i0 (.string ByteArray.empty) 1 16 U hi0 hz0 hz1 hz2 rfl _ (0 + (p - 0) + 1) _ rfl h7 _ (m - p) (((o.drop p).take (m - p)).map kS) rfl hC (oneS _) (by unfold maxLen; omega) (by omega) ?_; intro v9 w9 h9 _)
              | (refine wpList_append_Sl rfl (.tmp 52) (.tmp 58) 41 rfl 9 i0 (.string ByteArray.empty) 1 16 U hi0 hz0 hz1 hz2 rfl _ (0 + (p - 0)) _ rfl h6 _ 1 ([t].map kS) rfl hone (oneS _) (by unfold maxLen; omega) (by omega) ?_; intro v7 w7 h7 _; have hC := cutS (h7.eq (B := star (Row 9 1 (.slice va m vk) m (o.map kS)) (star (pt w5.heap.size (.cells #[.string ⟨t.toArray⟩] 9 (0, 0))) (star (Row 9 1 v7 (0 + (p - 0) + 1) ([] ++ ((o.drop 0).take (p - 0)).map kS ++ [t].map kS)) emp))) (by ac_rfl)).rowSl p m hpl (Nat.le_refl _))
              | (refine wpList_append_Sl rfl (.tmp 47) (.tmp 50) 41 rfl 9 i0 (.string ByteArray.empty) 1 16 U hi0 hz0 hz1 hz2 rfl _ 0 [] rfl h3 _ (p - 0) (((o.drop 0).take (p - 0)).map kS) rfl hA (oneS _) (by unfold maxLen; omega) (by omega) ?_; intro v5 w5 h5 _; have c2 := (HEL.out _ _ h5).1; have h5a := h5.alloc (.cells #[.string ⟨t.toArray⟩] 9); have hone := litS (l := [t]) rfl (by simp) h5a; have h6 := h5a.eq (B := star (Row 9 1 v5 (0 + (p - 0)) ([] ++ ((o.drop 0).take (p - 0)).map kS)) (star (pt w5.heap.size (.cells #[.string ⟨t.toArray⟩] 9 (0, 0))) (star (Row 9 1 (.slice va m vk) m (o.map kS)) emp))) (by ac_rfl)))
            have e3 : ([] : List Value) ++ ((o.drop 0).take (p - 0)).map kS ++ [t].map kS ++ ((o.drop p).take (m - p)).map kS = (o.take p ++ t :: o.drop p).map kS := by
              have : (o.drop p).take (m - p) = o.drop p := List.take_of_length_le (by have := HM.out; simp; omega)
              rw [this]; simp
            have e4 : 0 + (p - 0) + 1 + (m - p) = (o.take p ++ t :: o.drop p).length := by have := HM.out; simp; omega
            refine ⟨⟨i + 1, hin, by go_num, ?_⟩, by simp [intOf]; omega⟩
            rw [HS2.out, ← e3, ← e4]
            exact ((h9.eq (B := star (star (pt w5.heap.size (.cells #[.string ⟨t.toArray⟩] 9 (0, 0))) (Row 9 1 (.slice va m vk) m (o.map kS))) (star (Row 9 1 v9 (0 + (p - 0) + 1 + (m - p)) ([] ++ ((o.drop 0).take (p - 0)).map kS ++ [t].map kS ++ ((o.drop p).take (m - p)).map kS)) emp)) (by ac_rfl)).right).eq (star_emp _)
    · obtain rfl : n = i := by omega
      have e1 : l.take n = l := List.take_of_length_le (by rw [HL.out]; exact Nat.le_refl _)
      rw [e1] at hS ⊢
      rw [star_emp] at hS
      have HSF := Lib.hid hS
      clear hS e1
      go_wp2
      go_ret
      exact ⟨va, vk, rfl, St.comp h HSF.out⟩
end Go.Proofs.Ythaekkmnglhinaa.TpQ2
