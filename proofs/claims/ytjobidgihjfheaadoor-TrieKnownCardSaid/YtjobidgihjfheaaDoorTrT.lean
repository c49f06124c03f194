import Derived.Test.YtjobidgihjfheaaDoorTrS
import Derived.Test.YtjobidgihjfheaaDoorTrQ
import Derived.Deep.Draws
namespace Go.Proofs.YtjobidgihjfheaaDoor.TrT
open Go Go.RowKit Go.Proofs Go.Proofs.YtjobidgihjfheaaDoor.Sep Go.Proofs.YtjobidgihjfheaaDoor.Reg Go.Proofs.YtjobidgihjfheaaDoor.Frame Go.Proofs.YtjobidgihjfheaaDoor.Strs Go.Proofs.YtjobidgihjfheaaDoor.PathP Go.Proofs.YtjobidgihjfheaaDoor.TrP Go.Proofs.YtjobidgihjfheaaDoor.TrS Go.Proofs.YtjobidgihjfheaaDoor.TrQ

theorem Right_any (p : Tx) (w : World) (hp : p.length ≤ 1000000) (hm : MaxLen w) : Calls Tryd.prog 17 #[.string ⟨p.toArray⟩] w (Makes w (.bool (splitP p).isSome)) := by
  have HSp := Lib.hid (split_any p w hp hm)
  cases hs : splitP p with
  | none =>
    rw [hs] at HSp
    clear hs
    go_enter Tryd.func17, Tryd.ntmps17
    go_wp2_with fail
    refine HSp.out.mono ?_
    rintro e w2 ⟨rfl, hb⟩
    go_wp2
    go_ret
    exact ⟨rfl, hb⟩
  | some l =>
    rw [hs] at HSp
    clear hs
    go_enter Tryd.func17, Tryd.ntmps17
    go_wp2_with fail
    refine HSp.out.mono ?_
    rintro e w2 ⟨a, c, rfl, h2⟩
    go_wp2
    go_ret
    exact Makes.of h2
def greatP (l : List Tx) : Bool := decide (12 < l.length) || l.any fun x => decide (40 < x.length)
set_option maxRecDepth 100000 in
set_option maxHeartbeats 4000000 in
theorem Great_any {w : World} {a : Option Addr} {n c : Nat} {l : List Tx} (h : Sl w 1 (.slice a n c) n (strsV l)) (hln : l.length = n) (hxl : ∀ x ∈ l, x.length ≤ maxLen) : Calls Tryd.prog 7 #[.slice a n c] w (Same w (.bool (greatP l))) := by
  have hcap : n ≤ c ∧ c ≤ 9223372036854775807 := by obtain ⟨_, _, _, hv, h1, h2, _⟩ := h; cases hv; exact ⟨h1, by simpa [maxLen] using h2⟩
  have HL := Lib.hid hln
  have HS := Lib.hid h
  have HXL := Lib.hid hxl
  obtain ⟨res, hres⟩ : ∃ res, greatP l = res := ⟨_, rfl⟩
  have HR := Lib.hid hres
  rw [hres]
  clear hres hln h hxl
  by_cases h12 : 12 < n
  · have HT : Hid (res = true) := Lib.hid (by rw [← HR.out]; unfold greatP; rw [HL.out, decide_eq_true h12]; rfl)
    have hd : decide (12 < (n : Int)) = true := decide_eq_true (by omega)
    clear h12
    go_enter Tryd.func7, Tryd.ntmps7
    go_wp2
    go_ret
    exact ⟨by rw [HT.out]; rfl, rfl⟩
  · have HT : Hid (res = l.any fun x => decide (40 < x.length)) := Lib.hid (by rw [← HR.out]; unfold greatP; rw [HL.out, decide_eq_false h12]; rfl)
    have hd : decide (12 < (n : Int)) = false := decide_eq_false (by omega)
    go_enter Tryd.func7, Tryd.ntmps7
    go_wp2_with fail
    go_loop [3] (fun iv => ∃ i : Nat, i ≤ n ∧ iv = .int .i64 i ∧ Hid ((l.take i).any (fun x => decide (40 < x.length)) = false)) (fun iv => n - (intOf iv).toNat)
    case atStart => exact ⟨0, Nat.zero_le _, rfl, Lib.hid rfl⟩
    case round =>
      obtain ⟨i, hi, rfl, HA⟩ := hrel
      by_cases hin : i < n
      · obtain ⟨x, hx⟩ : ∃ x, l[i]? = some x := ⟨_, List.getElem?_eq_getElem (by rw [HL.out]; exact hin)⟩
        obtain ⟨ab, ao, rfl, hel⟩ := strs_at HS.out hx
        have he := hel _ _ (St.start w)
        have hxm := HXL.out x (List.mem_of_getElem? hx)
        unfold maxLen at hxm
        by_cases h40 : 40 < x.length
        · have HT2 : Hid (res = true) := Lib.hid (by rw [HT.out, List.any_eq_true]; exact ⟨x, List.mem_of_getElem? hx, decide_eq_true h40⟩)
          have hd40 : decide (40 < (x.length : Int)) = true := decide_eq_true (by omega)
          clear hel hx h40
          go_wp2
          go_ret
          exact ⟨by rw [HT2.out]; rfl, rfl⟩
        · have HA2 : Hid ((l.take (i + 1)).any (fun x => decide (40 < x.length)) = false) := Lib.hid (by
            rw [take_snoc l i x hx, List.any_append, HA.out]
            simp [h40])
          have hd40 : decide (40 < (x.length : Int)) = false := decide_eq_false (by omega)
          clear hel hx h40
          go_wp2_with fail
          exact ⟨⟨i + 1, hin, by go_num, HA2⟩, by simp [intOf]; omega⟩
      · obtain rfl : i = n := by omega
        have HT2 : Hid (res = false) := Lib.hid (by
          have := HA.out
          rw [List.take_of_length_le (by rw [HL.out]; exact Nat.le_refl _)] at this
          rw [HT.out, this])
        go_wp2
        go_ret
        exact ⟨by rw [HT2.out]; rfl, rfl⟩
theorem great_bounds {l : List Tx} (h : greatP l = false) : l.length ≤ 12 ∧ ∀ x ∈ l, x.length ≤ 40 := by
  unfold greatP at h
  rw [Bool.or_eq_false_iff, decide_eq_false_iff_not, List.any_eq_false] at h
  refine ⟨by omega, fun x hx => ?_⟩
  have := h.2 x hx
  simp at this
  omega

/-- A call that only reads. -/
def Reads (w : World) (v : Value) (e : Ending) (w' : World) : Prop := e = .returned v ∧ ∃ k, w' = w.drewN k
theorem Reads.st {W w w' : World} {v : Value} {e : Ending} {A : Asn} (h : Reads w v e w') (hS : St W w A) : St W w' A := by
  obtain ⟨_, k, rfl⟩ := h; exact hS.drewN k
theorem drewN_one (w : World) (k : Nat) : (w.drewN k).drew = w.drewN (k + 1) := by simp [World.drewN, World.drew, Nat.add_assoc]
set_option maxRecDepth 100000 in
set_option maxHeartbeats 8000000 in
theorem sameFields_any {w : World} {a b : Option Addr} {n m c d : Nat} {l k : List TrQ.Fd} (h : Sl w 2 (.slice a n c) n (fldV l)) (hln : l.length = n) (h2 : Sl w 2 (.slice b m d) m (fldV k)) (hlm : k.length = m) : Calls Tryd.prog 12 #[.slice a n c, .slice b m d] w (Reads w (.bool (decide (l = k)))) := by
  have hcap : n ≤ c ∧ c ≤ 9223372036854775807 := by obtain ⟨_, _, _, hv, h1, h2, _⟩ := h; cases hv; exact ⟨h1, by simpa [maxLen] using h2⟩
  have hcap2 : m ≤ d ∧ d ≤ 9223372036854775807 := by obtain ⟨_, _, _, hv, h1, h2, _⟩ := h2; cases hv; exact ⟨h1, by simpa [maxLen] using h2⟩
  have HL := Lib.hid hln
  have HM := Lib.hid hlm
  have HS := Lib.hid h
  have HS2 := Lib.hid h2
  obtain ⟨res, hres⟩ : ∃ res, decide (l = k) = res := ⟨_, rfl⟩
  have HR := Lib.hid hres
  rw [hres]
  clear hres hln hlm h h2
  by_cases hnm : n = m
  · subst hnm
    go_enter Tryd.func12, Tryd.ntmps12
    go_wp2_with fail
    go_loopw [5] (fun iv wr => ∃ i q : Nat, i ≤ n ∧ iv = .int .i64 i ∧ Hid (l.take i = k.take i) ∧ wr = w.drewN q) (fun iv _ => n - (intOf iv).toNat)
    case atStart => exact ⟨0, 0, Nat.zero_le _, rfl, Lib.hid rfl, (World.drewN_zero w).symm⟩
    case round =>
      obtain ⟨i, q, hi, rfl, HA, hwr⟩ := hrel
      have HW := Lib.hid hwr
      by_cases hin : i < n
      · obtain ⟨x, hx⟩ : ∃ x, l[i]? = some x := ⟨_, List.getElem?_eq_getElem (by rw [HL.out]; exact hin)⟩
        obtain ⟨y, hy⟩ : ∃ y, k[i]? = some y := ⟨_, List.getElem?_eq_getElem (by rw [HM.out]; exact hin)⟩
        have hs1 : Sl wr.drew 2 (.slice a n c) n (fldV l) := by rw [hwr]; exact (HS.out.drewN q).drew
        have hs2 : Sl wr.drew 2 (.slice b n d) n (fldV k) := by rw [hwr]; exact (HS2.out.drewN q).drew
        obtain ⟨ab, ao, rfl, hx1, hx2⟩ := elF hs1 hx
        obtain ⟨bb, bo, rfl, hy1, hy2⟩ := elF hs2 hy
        have HX := Lib.hid hx
        have HY := Lib.hid hy
        clear hs1 hs2 hx hy hwr
        by_cases hxy : x = y
        · have HA2 : Hid (l.take (i + 1) = k.take (i + 1)) := Lib.hid (by rw [take_snoc l i x HX.out, take_snoc k i y HY.out, HA.out, hxy])
          subst hxy
          go_wp2_with fail
          refine wp_region_canon [0, 1, 2, 3, 4, 5, 6, 7, 8] (by kernel_rfl) (by kernel_rfl) ?_
          simp only [pickOps, nthOp]
          go_wp2_with fail
          simp only [Only]
          go_wp2_with fail
          exact ⟨⟨i + 1, q + 1, hin, by go_num, HA2, by rw [HW.out, drewN_one]⟩, by simp [intOf]; omega⟩
        · have HT : Hid (res = false) := Lib.hid (by
            rw [← HR.out, decide_eq_false_iff_not]
            rintro rfl
            rw [HX.out] at HY
            exact hxy (by injection HY.out))
          have hb : ((x.1 == y.1) && (x.2 == y.2)) = false := by
            rw [Bool.and_eq_false_iff]
            by_cases h1 : x.1 = y.1
            · right
              rw [beq_eq_false_iff_ne]
              exact fun h2 => hxy (Prod.ext h1 h2)
            · left
              rw [beq_eq_false_iff_ne]; exact h1
          clear hxy
          obtain ⟨x1, x2⟩ := x
          obtain ⟨y1, y2⟩ := y
          simp only at hx1 hx2 hy1 hy2 hb
          by_cases h1 : x1 = y1
          · subst h1
            have hb2 : (x2 == y2) = false := by simpa using hb
            clear hb
            go_wp2_with fail
            refine wp_region_canon [0, 1, 2, 3, 4, 5, 6, 7, 8] (by kernel_rfl) (by kernel_rfl) ?_
            simp only [pickOps, nthOp]
            go_wp2_with fail
            simp only [Only]
            go_wp2
            go_ret
            exact ⟨by rw [HT.out] <;> rfl, q + 1, by rw [HW.out, drewN_one]⟩
          · have hb1 : (x1 == y1) = false := by simpa using h1
            clear hb h1
            go_wp2_with fail
            refine wp_region_canon [0, 1, 2, 3, 4, 5, 6, 7, 8] (by kernel_rfl) (by kernel_rfl) ?_
            simp only [pickOps, nthOp]
            go_wp2_with fail
            simp only [Only]
            go_wp2
            go_ret
            exact ⟨by rw [HT.out] <;> rfl, q + 1, by rw [HW.out, drewN_one]⟩
      · obtain rfl : i = n := by omega
        have HT : Hid (res = true) := Lib.hid (by
          have := HA.out
          rw [List.take_of_length_le (by rw [HL.out]; exact Nat.le_refl _), List.take_of_length_le (by rw [HM.out]; exact Nat.le_refl _)] at this
          rw [← HR.out, decide_eq_true this])
        clear hwr
        go_wp2
        go_ret
        exact ⟨by rw [HT.out] <;> rfl, q, HW.out⟩
  · have HT : Hid (res = false) := Lib.hid (by
      rw [← HR.out, decide_eq_false_iff_not]
      rintro rfl
      exact hnm (HL.out.symm.trans HM.out))
    have hd : ((n : Int) == (m : Int)) = false := by simp; omega
    have hd2 : ((n : Int) != (m : Int)) = true := by simp; omega
    clear hnm
    go_enter Tryd.func12, Tryd.ntmps12
    go_wp2
    go_ret
    exact ⟨by rw [HT.out]; rfl, 0, (World.drewN_zero w).symm⟩
end Go.Proofs.YtjobidgihjfheaaDoor.TrT
