import Derived.Test.YthaekkmnglhinaaTpG
import Derived.Test.YthaekkmnglhinaaHeld
import Derived.Test.YthaekkmnglhinaaSure
import Derived.BigQuiet
namespace Go.Proofs.Ythaekkmnglhinaa.TpQ
open Go Go.RowKit Go.Proofs Go.Proofs.Ythaekkmnglhinaa.Sep Go.Proofs.Ythaekkmnglhinaa.Reg Go.Proofs.Ythaekkmnglhinaa.Frame Go.Proofs.Ythaekkmnglhinaa.Slc Go.Proofs.Ythaekkmnglhinaa.Sure Go.Proofs.Ythaekkmnglhinaa.TpP Go.Proofs.Ythaekkmnglhinaa.TpA Go.Proofs.Ythaekkmnglhinaa.TpI Go.Proofs.Ythaekkmnglhinaa.TpL Go.Proofs.Ythaekkmnglhinaa.TpM Go.Proofs.Ythaekkmnglhinaa.TpN Go.Proofs.Ythaekkmnglhinaa.TpT

/-! ### A list of pairs, as cells. -/
def pE (x : Pr) : List Value := [.string ⟨x.1.toArray⟩, .int .i64 x.2]
def psV (l : List Pr) : List Value := l.flatMap pE
theorem psV_length (l : List Pr) : (psV l).length = l.length * 2 := by
  induction l with
  | nil => rfl
  | cons x l ih => simp only [psV, List.flatMap_cons, List.length_append, List.length_cons] at ih ⊢; rw [ih]; simp [pE]; omega
theorem psV_append (l m : List Pr) : psV (l ++ m) = psV l ++ psV m := by simp [psV]
theorem psV_one (l : List Pr) : ∀ u ∈ psV l, u.oneCell' = true := by
  intro u hu
  obtain ⟨x, _, hx⟩ := List.mem_flatMap.1 hu
  simp only [pE, List.mem_cons, List.not_mem_nil, or_false] at hx
  rcases hx with rfl | rfl <;> rfl
theorem psV_take (l : List Pr) (i : Nat) : (psV l).take (i * 2) = psV (l.take i) := by
  by_cases hi : i ≤ l.length
  · have e : psV l = psV (l.take i) ++ psV (l.drop i) := by rw [← psV_append, List.take_append_drop]
    rw [e, List.take_append_of_le_length (by rw [psV_length]; simp [hi]), List.take_of_length_le (by rw [psV_length]; simp; omega)]
  · rw [List.take_of_length_le (by rw [psV_length]; omega), List.take_of_length_le (by omega)]
theorem psV_drop (l : List Pr) (i : Nat) : (psV l).drop (i * 2) = psV (l.drop i) := by
  by_cases hi : i ≤ l.length
  · have e : psV l = psV (l.take i) ++ psV (l.drop i) := by rw [← psV_append, List.take_append_drop]
    have hl : (psV (l.take i)).length = i * 2 := by rw [psV_length]; simp [hi]
    rw [e, ← hl, List.drop_left]
  · rw [List.drop_of_length_le (by rw [psV_length]; omega), List.drop_of_length_le (by omega)]; rfl
theorem elP {W : World} {a : Option Addr} {n c : Nat} {l : List Pr} (h : Sl W 2 (.slice a n c) n (psV l)) {i : Nat} {x : Pr} (hx : l[i]? = some x) :
    ∃ ab ao, a = some ⟨ab, ao, none⟩ ∧ ∀ w A, St W w A → w.cell? ⟨ab, ao + i * 2, none⟩ = some (.string ⟨x.1.toArray⟩) ∧ w.cell? ⟨ab, ao + i * 2 + 1, none⟩ = some (.int .i64 x.2) := by
  have hg := flatMap_get (E := pE) (size := 2) (fun _ => rfl) l i x hx
  have hlen : 0 < (psV l).length := by
    have := (List.getElem?_eq_some_iff.1 (show (psV l)[i * 2 + 0]? = some (.string ⟨x.1.toArray⟩) from hg 0 (by omega))).1
    omega
  obtain ⟨ab, ao, rfl, hc⟩ := sl_addr h hlen
  refine ⟨ab, ao, rfl, fun w A hS => ⟨?_, ?_⟩⟩
  · have h0 := hc (i * 2 + 0) _ (hg 0 (by omega))
    exact (hS.old (World.block_lt_of_cell? W _ h0)).trans h0
  · have h1 := hc (i * 2 + 1) _ (hg 1 (by omega))
    exact (hS.old (World.block_lt_of_cell? W _ h1)).trans h1
def zP : Value := .agg #[.string ByteArray.empty, .int .i64 0]
theorem infoP : (Try.prog.info? 39).map (fun i => (i.zero, i.size, i.bytes)) = some (some zP, 2, 24) := by kernel_rfl
theorem infoP2 : (Try.prog.info? 39).map (·.size) = some 2 := by kernel_rfl

/-- Where a pair stands. -/
def atZ (l : List Pr) (t : Tx) (k : Int) : Int := if (t, k) ∈ l then (l.findIdx (fun x => decide (x = (t, k))) : Nat) else -1
theorem atZ_not {l : List Pr} {t : Tx} {k : Int} (h : (t, k) ∉ l) : atZ l t k = -1 := if_neg h
theorem atZ_some {l : List Pr} {t : Tx} {k : Int} {i : Nat} (hx : l[i]? = some (t, k)) (ht : (t, k) ∉ l.take i) : atZ l t k = i := by
  unfold atZ
  rw [if_pos (List.mem_of_getElem? hx)]
  obtain ⟨hi, hx⟩ := List.getElem?_eq_some_iff.1 hx
  have : l.findIdx (fun x => decide (x = (t, k))) = i := by
    rw [List.findIdx_eq hi]
    refine ⟨by simpa using hx, fun j hj => ?_⟩
    simp only [decide_eq_false_iff_not]
    intro e
    exact ht (List.mem_of_getElem? (i := j) (by rw [List.getElem?_take, if_pos hj, List.getElem?_eq_getElem (by omega), e]))
  rw [this]
theorem atZ_mem {l : List Pr} (hn : l.Nodup) {t : Tx} {k : Int} (h : (t, k) ∈ l) : ∃ q : Nat, q < l.length ∧ atZ l t k = q ∧ l.take q ++ l.drop (q + 1) = dropP l t k := by
  obtain ⟨A, B, rfl⟩ := List.append_of_mem h
  have hA : (t, k) ∉ A := fun hx => (List.nodup_append.1 hn).2.2 _ hx _ (by simp) rfl
  have hB : (t, k) ∉ B := (List.nodup_cons.1 (List.nodup_append.1 hn).2.1).1
  refine ⟨A.length, by simp, atZ_some (by simp) (by rw [List.take_left]; exact hA), ?_⟩
  rw [List.take_left]
  have e : (A ++ (t, k) :: B).drop (A.length + 1) = B := by simp
  rw [e]
  unfold dropP
  rw [List.filter_append, List.filter_cons_of_neg (by simp), List.filter_eq_self.2 (fun y hy => by simp; rintro rfl; exact hA hy), List.filter_eq_self.2 (fun y hy => by simp; rintro rfl; exact hB hy)]

set_option maxRecDepth 100000 in
set_option maxHeartbeats 4000000 in
theorem rHears_any (a : Option Addr) (n c : Nat) (l : List Pr) (hn : l.length = n) (hn1 : n ≤ 1000000) (t : Tx) (k : Int) (q : Int) (hq : atZ l t k = q) (w : World) (hsl : Sl w 2 (.slice a n c) n (psV l)) :
    Calls Try.prog 17 #[.slice a n c, .string ⟨t.toArray⟩, .int .i64 k] w (Makes w (.int .i64 q)) := by
  have h0 := St.start w
  have HSL := Lib.hid hsl
  have HL := Lib.hid hn
  have HQ := Lib.hid hq
  clear hsl hn hq
  go_enter Try.func17, Try.ntmps17
  go_wp2_with fail
  go_loopw [7] (fun iv wr => ∃ i : Nat, i ≤ n ∧ iv = .int .i64 i ∧ (t, k) ∉ l.take i ∧ St w wr emp) (fun iv _ => n - (intOf iv).toNat)
  case atStart => exact ⟨0, Nat.zero_le _, rfl, by simp, h0⟩
  case round =>
    obtain ⟨i, hi, rfl, htk, hS⟩ := hrel
    have HT := Lib.hid htk
    clear htk
    by_cases hin : i < n
    · obtain ⟨x, hx⟩ : ∃ x, l[i]? = some x := ⟨_, List.getElem?_eq_getElem (by rw [HL.out]; exact hin)⟩
      obtain ⟨ab, ao, rfl, hel⟩ := elP HSL.out hx
      obtain ⟨x1, x2⟩ := x
      obtain ⟨he0, he1⟩ := hel _ _ hS
      have hinI : (i : Int) < n := by omega
      have HX := Lib.hid hx
      clear hel hx
      have HNX : ∀ (_ : (x1, x2) ≠ (t, k)), (t, k) ∉ l.take (i + 1) := fun hne => by
        rw [List.take_add_one, HX.out]
        intro hm
        rcases List.mem_append.1 hm with h | h
        · exact HT.out h
        · exact hne (by simp at h; exact Prod.ext h.1.symm h.2.symm)
      have HNX := Lib.hid HNX
      cases ht : (x1 == t)
      · have hne : (x1, x2) ≠ (t, k) := fun e => by
          have := (Prod.mk.inj e).1
          simp [this] at ht
        have HN2 := Lib.hid (HNX.out hne)
        clear hne HNX
        go_wp2_with fail
        exact ⟨⟨i + 1, by omega, by go_num, HN2.out, hS⟩, by simp [intOf]; omega⟩
      · have hte : x1 = t := by simpa using ht
        cases hk : (x2 == k)
        · have hne : (x1, x2) ≠ (t, k) := fun e => by
            have := (Prod.mk.inj e).2
            simp [this] at hk
          have HN2 := Lib.hid (HNX.out hne)
          clear hne HNX hte
          go_wp2_with fail
          exact ⟨⟨i + 1, by omega, by go_num, HN2.out, hS⟩, by simp [intOf]; omega⟩
        · have hke : x2 = k := by simpa using hk
          have HV : Hid (atZ l t k = i) := Lib.hid (atZ_some (by rw [HX.out, hte, hke]) HT.out)
          clear hte hke HNX
          go_wp2
          go_ret
          exact ⟨by rw [← HQ.out, HV.out]; rfl, hS.below⟩
    · obtain rfl : i = n := by omega
      have HV : Hid (atZ l t k = -1) := Lib.hid (atZ_not (by
        have := HT.out
        rw [List.take_of_length_le (by rw [HL.out]; omega)] at this
        exact this))
      go_wp2
      go_ret
      exact ⟨by rw [← HQ.out, HV.out]; rfl, hS.below⟩
set_option maxRecDepth 100000 in
set_option maxHeartbeats 4000000 in
theorem rOf_any (a : Option Addr) (n c : Nat) (l : List Pr) (hn : l.length = n) (hn1 : n ≤ 1000000) (t : Tx) {W w : World} {R : Asn} (h : St W w R) (hsl : Sl w 2 (.slice a n c) n (psV l)) :
    Calls Try.prog 22 #[.slice a n c, .string ⟨t.toArray⟩] w fun e w' => ∃ a' c', e = .returned (.slice a' (ofP l t).length c') ∧ St W w' (star (Row 3 1 (.slice a' (ofP l t).length c') (ofP l t).length ((ofP l t).map kI)) R) := by
  have HSL := Lib.hid hsl
  have HL := Lib.hid hn
  clear hsl hn
  go_enter Try.func22, Try.ntmps22
  go_wp2_with fail
  go_loopw [5, 6] (fun ov iv wr => ∃ i : Nat, i ≤ n ∧ iv = .int .i64 i ∧ St w wr (Row 3 1 ov (ofP (l.take i) t).length ((ofP (l.take i) t).map kI))) (fun _ iv _ => n - (intOf iv).toNat)
  case atStart => exact ⟨0, Nat.zero_le _, rfl, ((St.start w).nilRow (e := 3) (size := 1)).eq (star_emp _)⟩
  case round =>
    obtain ⟨i, hi, rfl, hS⟩ := hrel
    rw [← star_emp (Row _ _ _ _ _)] at hS
    obtain ⟨_, va, vk, rfl, _⟩ := id hS.rowSl
    by_cases hin : i < n
    · obtain ⟨x, hx⟩ : ∃ x, l[i]? = some x := ⟨_, List.getElem?_eq_getElem (by rw [HL.out]; exact hin)⟩
      obtain ⟨ab, ao, rfl, hel⟩ := elP HSL.out hx
      obtain ⟨x1, x2⟩ := x
      obtain ⟨he0, he1⟩ := hel _ _ hS
      have hinI : (i : Int) < n := by omega
      have HTS : Hid (ofP (l.take (i + 1)) t = ofP (l.take i) t ++ ofP [(x1, x2)] t) := Lib.hid (by rw [List.take_add_one, hx, ofP_append]; rfl)
      have hml : (ofP (l.take i) t).length ≤ i := Nat.le_trans (ofP_le _ _) (by simp; omega)
      obtain ⟨L, hL⟩ : ∃ L, ofP (l.take i) t = L := ⟨_, rfl⟩
      rw [hL] at hS HTS hml
      obtain ⟨m, hm⟩ : ∃ m, L.length = m := ⟨_, rfl⟩
      rw [hm] at hS hml
      rw [hL, hm]
      have HM := Lib.hid hm
      clear hel hx hL hm
      cases ht : (x1 == t)
      · have hne : ofP [(x1, x2)] t = [] := by
          rw [ofP_one, if_neg (fun e => by simp [e] at ht)]
        rw [hne, List.append_nil] at HTS
        clear hne
        go_wp2_with fail
        exact ⟨⟨i + 1, hin, by go_num, by rw [HTS.out, HM.out]; exact hS.eq (star_emp _)⟩, by simp [intOf]; omega⟩
      · have hte : x1 = t := by simpa using ht
        have hne : ofP [(x1, x2)] t = [x2] := by
          rw [ofP_one, if_pos hte.symm]
        rw [hne] at HTS
        clear hne hte
        obtain ⟨i0, hi0, hz0, hz1, hz2⟩ := info_parts infoI
        have U := Try.underlying22
        have h2 := hS.alloc (.cells #[.int .i64 x2] 3)
        have hone := litI (l := [x2]) rfl (by simp) h2
        have h3 := h2.swap
        clear h2 hS
        go_wp2_with (at_builtin; refine wpList_append_Sl rfl (.tmp 20) (.tmp 26) 22 rfl 3 i0 (.int .i64 0) 1 8 U hi0 hz0 hz1 hz2 rfl _ m (L.map kI) rfl h3 _ 1 ([x2].map kI) rfl hone (oneI _) (by unfold maxLen; omega) (by omega) ?_; intro v9 w9 hS9 hv9)
        have e3 : L.map kI ++ [x2].map kI = (L ++ [x2]).map kI := by simp
        have e4 : (L ++ [x2]).length = m + 1 := by simp [HM.out]
        refine ⟨⟨i + 1, hin, by go_num, ?_⟩, by simp [intOf]; omega⟩
        rw [HTS.out, e4, ← e3]
        exact (hS9.swap.right).eq (star_emp _)
    · obtain rfl : n = i := by omega
      have e1 : l.take n = l := List.take_of_length_le (by rw [HL.out]; exact Nat.le_refl _)
      rw [e1] at hS ⊢
      rw [star_emp] at hS
      have HSF := Lib.hid hS
      clear hS e1
      go_wp2
      go_ret
      exact ⟨va, vk, rfl, St.comp h HSF.out⟩

set_option maxRecDepth 100000 in
set_option maxHeartbeats 4000000 in
theorem rBy_any (a : Option Addr) (n c : Nat) (l : List Pr) (hn : l.length = n) (hn1 : n ≤ 1000000) (k : Int) {W w : World} {R : Asn} (h : St W w R) (hsl : Sl w 2 (.slice a n c) n (psV l)) :
    Calls Try.prog 19 #[.slice a n c, .int .i64 k] w fun e w' => ∃ a' c', e = .returned (.slice a' (byP l k).length c') ∧ St W w' (star (Row 9 1 (.slice a' (byP l k).length c') (byP l k).length ((byP l k).map kS)) R) := by
  have HSL := Lib.hid hsl
  have HL := Lib.hid hn
  clear hsl hn
  go_enter Try.func19, Try.ntmps19
  go_wp2_with fail
  go_loopw [5, 6] (fun ov iv wr => ∃ i : Nat, i ≤ n ∧ iv = .int .i64 i ∧ St w wr (Row 9 1 ov (byP (l.take i) k).length ((byP (l.take i) k).map kS))) (fun _ iv _ => n - (intOf iv).toNat)
  case atStart => exact ⟨0, Nat.zero_le _, rfl, ((St.start w).nilRow (e := 9) (size := 1)).eq (star_emp _)⟩
  case round =>
    obtain ⟨i, hi, rfl, hS⟩ := hrel
    rw [← star_emp (Row _ _ _ _ _)] at hS
    obtain ⟨_, va, vk, rfl, _⟩ := id hS.rowSl
    by_cases hin : i < n
    · obtain ⟨x, hx⟩ : ∃ x, l[i]? = some x := ⟨_, List.getElem?_eq_getElem (by rw [HL.out]; exact hin)⟩
      obtain ⟨ab, ao, rfl, hel⟩ := elP HSL.out hx
      obtain ⟨x1, x2⟩ := x
      obtain ⟨he0, he1⟩ := hel _ _ hS
      have hinI : (i : Int) < n := by omega
      have HTS : Hid (byP (l.take (i + 1)) k = byP (l.take i) k ++ byP [(x1, x2)] k) := Lib.hid (by rw [List.take_add_one, hx, byP_append]; rfl)
      have hml : (byP (l.take i) k).length ≤ i := Nat.le_trans (byP_le _ _) (by simp; omega)
      obtain ⟨L, hL⟩ : ∃ L, byP (l.take i) k = L := ⟨_, rfl⟩
      rw [hL] at hS HTS hml
      obtain ⟨m, hm⟩ : ∃ m, L.length = m := ⟨_, rfl⟩
      rw [hm] at hS hml
      rw [hL, hm]
      have HM := Lib.hid hm
      clear hel hx hL hm
      cases ht : (x2 == k)
      · have hne : byP [(x1, x2)] k = [] := by
          rw [byP_one, if_neg (fun e => by simp [e] at ht)]
        rw [hne, List.append_nil] at HTS
        clear hne
        go_wp2_with fail
        exact ⟨⟨i + 1, hin, by go_num, by rw [HTS.out, HM.out]; exact hS.eq (star_emp _)⟩, by simp [intOf]; omega⟩
      · have hte : x2 = k := by simpa using ht
        have hne : byP [(x1, x2)] k = [x1] := by
          rw [byP_one, if_pos hte.symm]
        rw [hne] at HTS
        clear hne hte
        obtain ⟨i0, hi0, hz0, hz1, hz2⟩ := info_parts infoS
        have U := Try.underlying41
        have h2 := hS.alloc (.cells #[.string ⟨x1.toArray⟩] 9)
        have hone := litS (l := [x1]) rfl (by simp) h2
        have h3 := h2.swap
        clear h2 hS
        go_wp2_with (at_builtin; refine wpList_append_Sl rfl (.tmp 20) (.tmp 26) 41 rfl 9 i0 (.string ByteArray.empty) 1 16 U hi0 hz0 hz1 hz2 rfl _ m (L.map kS) rfl h3 _ 1 ([x1].map kS) rfl hone (oneS _) (by unfold maxLen; omega) (by omega) ?_; intro v9 w9 hS9 hv9)
        have e3 : L.map kS ++ [x1].map kS = (L ++ [x1]).map kS := by simp
        have e4 : (L ++ [x1]).length = m + 1 := by simp [HM.out]
        refine ⟨⟨i + 1, hin, by go_num, ?_⟩, by simp [intOf]; omega⟩
        rw [HTS.out, e4, ← e3]
        exact (hS9.swap.right).eq (star_emp _)
    · obtain rfl : n = i := by omega
      have e1 : l.take n = l := List.take_of_length_le (by rw [HL.out]; exact Nat.le_refl _)
      rw [e1] at hS ⊢
      rw [star_emp] at hS
      have HSF := Lib.hid hS
      clear hS e1
      go_wp2
      go_ret
      exact ⟨va, vk, rfl, St.comp h HSF.out⟩
end Go.Proofs.Ythaekkmnglhinaa.TpQ
