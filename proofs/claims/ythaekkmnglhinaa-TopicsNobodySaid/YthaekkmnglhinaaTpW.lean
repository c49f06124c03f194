import Derived.Test.YthaekkmnglhinaaTpV
namespace Go.Proofs.Ythaekkmnglhinaa.TpW
open Go Go.RowKit Go.Proofs Go.Proofs.Ythaekkmnglhinaa.Sep Go.Proofs.Ythaekkmnglhinaa.Reg Go.Proofs.Ythaekkmnglhinaa.Frame Go.Proofs.Ythaekkmnglhinaa.Rng Go.Proofs.Ythaekkmnglhinaa.RngA Go.Proofs.Ythaekkmnglhinaa.RngB Go.Proofs.Ythaekkmnglhinaa.Strs Go.Proofs.Ythaekkmnglhinaa.TpP Go.Proofs.Ythaekkmnglhinaa.TpA Go.Proofs.Ythaekkmnglhinaa.TpI Go.Proofs.Ythaekkmnglhinaa.TpJ Go.Proofs.Ythaekkmnglhinaa.TpK Go.Proofs.Ythaekkmnglhinaa.TpO Go.Proofs.Ythaekkmnglhinaa.TpU Go.Proofs.Ythaekkmnglhinaa.TpV

abbrev nilP : Value := .pointer none
set_option maxRecDepth 100000 in
theorem Of_nil (t : Tx) {W w : World} {A : Asn} (h : St W w A) :
    Calls Try.prog 26 #[nilP, kS t] w fun e w' => ∃ b1 b2, e = .returned (.func (.func 33) #[] #[.pointer (some ⟨b1, 0, none⟩), .pointer (some ⟨b2, 0, none⟩)]) ∧
      St W w' (star (pt b1 (.cells #[nilP] 24 (0, 0))) (star (pt b2 (.cells #[kS t] 9 (0, 0))) A)) := by
  have h1 := (h.alloc (.cells #[nilP] 24)).alloc (.cells #[kS t] 9)
  rw [World.size_alloc] at h1
  go_enter Try.func26, Try.ntmps26
  go_wp2
  go_ret
  exact ⟨_, _, rfl, h1.swap⟩
set_option maxRecDepth 100000 in
theorem Of1_nil (b1 b2 y m : Nat) (I : Asn) (J : Code → Asn) {W w : World} (h : St W w I) (hb1 : w.cell? ⟨b1, 0, none⟩ = some nilP) :
    CallsIn Fence.wide (m + 1) Try.prog 33 #[.func (.yield y) #[] #[], .pointer (some ⟨b1, 0, none⟩), .pointer (some ⟨b2, 0, none⟩)] w (APost W I J) := by
  have HN := Lib.hid (none_nil w)
  refine callsIn_of_wp Try.func33 rfl trivial ?_ rfl
  simp only [Try.ntmps33, List.size_toArray, List.length_cons, List.length_nil, Nat.reduceAdd, Nat.reduceSub, Array.replicate_succ, Array.replicate_zero, List.push_toArray, List.append_toArray, List.nil_append, List.cons_append]
  gi_wp2_with fail
  refine ⟨trivial, callsIn_wide.2 (HN.out.mono ?_)⟩
  rintro e w1 hq
  have h1 := h.makes hq
  obtain ⟨rfl, -⟩ := hq
  gi_wp2_with fail
  refine bodyPost_ret (results_none rfl _ _ _) rfl ?_
  exact ⟨⟨_, rfl⟩, .inl h1⟩
theorem range_nil {W w : World} {m : Nat} {g : Operand} {params : Array Tmp} {assign body : Code} {Q : Exit → Act → World → Prop} {a : Act} (b1 b2 : Nat) (Φ : Asn)
    (hg : a.eval g = .func (.func 33) #[] #[.pointer (some ⟨b1, 0, none⟩), .pointer (some ⟨b2, 0, none⟩)]) (h : St W w Φ)
    (hcells : ∀ w, St W w Φ → w.cell? ⟨b1, 0, none⟩ = some nilP)
    (hdone : ∀ D w4, St W w4 (star (pt D (.deferred (some []))) Φ) → Q .normal { a with defers := { target := .collected D, args := #[] } :: a.defers } w4) :
    (Code.rangeFunc g params assign body).wpIn Fence.wide (m + 2) Try.prog Q a w := by
  refine range_St (Φ := Φ) (Ψ := fun _ => No) rfl (by omega) hg trivial (enters_of Try.func33 (by kernel_rfl) rfl) h ?_ hdone (fun D c w4 h4 => (St.no h4).elim)
  intro fn l0 D w1 hfn hS
  exact Of1_nil b1 b2 l0 m _ (fun c => star (pt l0 (.loop (rec fn a.tmps params assign body D .done (some c)))) (star (pt D (.deferred (some []))) No)) hS (hcells _ hS.right.right)
attribute [local go_sem] Oper.semAt_some
set_option maxRecDepth 100000 in
set_option maxHeartbeats 8000000 in
theorem Hears_nil (t : Tx) (k : Int) {W w : World} {R : Asn} (h : St W w R) :
    Calls Try.prog 14 #[nilP, kS t, .int .i64 k] w fun e w' => e = .returned (.bool false) ∧ St W w' R := by
  have h1 := h.alloc (.cells #[kI k] 3)
  have h2 := h1.alloc (.cells #[.bool false] 4)
  rw [World.size_alloc] at h2
  have HA := Lib.hid (Of_nil t h2)
  refine (callsIn_wide (n := 3)).1 (callsIn_of_wp_marks Try.func14 rfl trivial ?_ rfl)
  simp only [Try.ntmps14, List.size_toArray, List.length_cons, List.length_nil, Nat.reduceAdd, Nat.reduceSub, Array.replicate_succ, Array.replicate_zero, List.push_toArray, List.append_toArray, List.nil_append, List.cons_append]
  gi_wp2_with fail
  refine ⟨trivial, callsIn_wide.2 (HA.out.mono ?_)⟩
  rintro e w3 ⟨b1, b2, rfl, h3⟩
  clear h1 h2 HA
  generalize w.heap.size = bk at *
  obtain ⟨br, hbr⟩ : ∃ br, bk + 1 = br := ⟨_, rfl⟩
  rw [hbr] at h3
  rw [hbr]
  gi_wp2_with fail
  refine range_nil (m := 1) b1 b2 _ rfl h3 (fun w h => h.cell 0 rfl) ?_
  rintro D w5 h5
  have h6 := h5.eq (B := star (pt br (.cells #[.bool false] 4 (0, 0))) (star (pt D (.deferred (some []))) (star (star (pt bk (.cells #[kI k] 3 (0, 0))) (star (pt b1 (.cells #[nilP] 24 (0, 0))) (pt b2 (.cells #[kS t] 9 (0, 0))))) R))) (by ac_rfl)
  have hbr := h6.cell 0 rfl
  have hfr := h6.free 0
  have h7 := h6.setCell 0 (.bool false)
  have hK := h7.right.blk
  clear h5 h3
  gi_wp2_with fail
  refine ⟨by simp, .inl ⟨_, _, rfl, run_takeDeferred hK, ?_⟩⟩
  have h10 := St.putObj (h7.swap) (.deferred none)
  have hrd := h10.right.cell 0 rfl
  refine ⟨.bool false, by simp [results, Try.results14, go_sem, hrd], rfl, ?_⟩
  exact (h10.right.right).right
set_option maxRecDepth 100000 in
set_option maxHeartbeats 8000000 in
theorem of_nil (t : Tx) {W w : World} {R : Asn} (h : St W w R) :
    Calls Try.prog 12 #[nilP, kS t, .int .i64 9] w fun e w' => e = .returned (.slice none 0 0) ∧ St W w' R := by
  have h1 := h.alloc (.cells #[.int .i64 9] 3)
  have h2 := h1.alloc (.cells #[.slice none 0 0] 22)
  have h3 := h2.alloc (.cells #[.slice none 0 0] 22)
  simp only [World.size_alloc] at h2 h3
  refine (callsIn_wide (n := 3)).1 (callsIn_of_wp_marks Try.func12 rfl trivial ?_ rfl)
  simp only [Try.ntmps12, List.size_toArray, List.length_cons, List.length_nil, Nat.reduceAdd, Nat.reduceSub, Array.replicate_succ, Array.replicate_zero, List.push_toArray, List.append_toArray, List.nil_append, List.cons_append]
  gi_wp2_with fail
  have HA := Lib.hid (Of_nil t h3)
  refine ⟨trivial, callsIn_wide.2 (HA.out.mono ?_)⟩
  rintro e w3 ⟨c1, c2, rfl, h5⟩
  have HA2 := Lib.hid (Of_nil t h5)
  have hN : ∀ f g h, (binOp .eql 50 (.func f g h) .nilFunc).run Try.prog w3 = .ok (.bool false) w3 := by intro f g h; rfl
  obtain ⟨rb, hrb⟩ : ∃ rb, w.heap.size + 1 = rb := ⟨_, rfl⟩
  obtain ⟨ob, hob⟩ : ∃ ob, rb + 1 = ob := ⟨_, rfl⟩
  rw [hrb, hob] at h5 ⊢
  rw [hrb, hob] at HA2
  generalize w.heap.size = mb at *
  clear h1 h2 h3 HA h h5
  gi_wp2_with fail
  refine ⟨trivial, callsIn_wide.2 (HA2.out.mono ?_)⟩
  rintro e w4 ⟨b1, b2, rfl, h6⟩
  clear HA2 hN
  gi_wp2_with fail
  refine range_nil (m := 1) b1 b2 _ rfl h6 (fun w h => h.cell 0 rfl) ?_
  rintro D w5 h5
  have h7 := h5.eq (B := star (pt rb (.cells #[.slice none 0 0] 22 (0, 0))) (star (pt D (.deferred (some []))) (star (pt ob (.cells #[.slice none 0 0] 22 (0, 0))) (star (star (pt mb (.cells #[.int .i64 9] 3 (0, 0))) (star (star (pt b1 (.cells #[nilP] 24 (0, 0))) (pt b2 (.cells #[kS t] 9 (0, 0)))) (star (pt c1 (.cells #[nilP] 24 (0, 0))) (pt c2 (.cells #[kS t] 9 (0, 0)))))) R)))) (by ac_rfl)
  have hob := h7.right.right.cell 0 rfl
  have hrb0 := h7.cell 0 rfl
  have hrf := h7.free 0
  have h9 := h7.setCell 0 (.slice none 0 0)
  have hK := h9.right.blk
  clear h5 h6
  gi_wp2_with fail
  refine ⟨by simp, .inl ⟨_, _, rfl, run_takeDeferred hK, ?_⟩⟩
  have h10 := St.putObj (h9.swap) (.deferred none)
  have hrd := h10.right.cell 0 rfl
  refine ⟨.slice none 0 0, by simp [results, Try.results12, go_sem, hrd], rfl, ?_⟩
  exact (h10.right.right.right).right
set_option maxRecDepth 100000 in
theorem Add_nil (t : Tx) (k : Int) {W w : World} {R : Asn} (h : St W w R) : Calls Try.prog 11 #[nilP, kS t, .int .i64 k] w fun e w' => e = .returned (.int .i64 2) ∧ St W w' R := by
  have HN := Lib.hid (none_nil w)
  go_enter Try.func11, Try.ntmps11
  go_wp2_with fail
  refine HN.out.mono ?_
  rintro e w1 hq
  have h1 := h.makes hq
  obtain ⟨rfl, -⟩ := hq
  go_wp2
  go_ret
  exact ⟨rfl, h1⟩
set_option maxRecDepth 100000 in
theorem Drop_nil (t : Tx) (k : Int) {W w : World} {R : Asn} (h : St W w R) : Calls Try.prog 13 #[nilP, kS t, .int .i64 k] w fun e w' => e = .returned (.bool false) ∧ St W w' R := by
  have HN := Lib.hid (Hears_nil t k h)
  go_enter Try.func13, Try.ntmps13
  go_wp2_with fail
  refine HN.out.mono ?_
  rintro e w1 ⟨rfl, h1⟩
  go_wp2
  go_ret
  exact ⟨rfl, h1⟩
set_option maxRecDepth 100000 in
theorem By_nil (k : Int) {W w : World} {R : Asn} (h : St W w R) : Calls Try.prog 23 #[nilP, .int .i64 k] w fun e w' => e = .returned (.slice none 0 0) ∧ St W w' R := by
  have HN := Lib.hid (none_nil w)
  go_enter Try.func23, Try.ntmps23
  go_wp2_with fail
  refine HN.out.mono ?_
  rintro e w1 hq
  have h1 := h.makes hq
  obtain ⟨rfl, -⟩ := hq
  go_wp2
  go_ret
  exact ⟨rfl, h1⟩
set_option maxRecDepth 100000 in
theorem Topics_nil {W w : World} {R : Asn} (h : St W w R) : Calls Try.prog 24 #[nilP] w fun e w' => e = .returned (.slice none 0 0) ∧ St W w' R := by
  have HN := Lib.hid (none_nil w)
  go_enter Try.func24, Try.ntmps24
  go_wp2_with fail
  refine HN.out.mono ?_
  rintro e w1 hq
  have h1 := h.makes hq
  obtain ⟨rfl, -⟩ := hq
  go_wp2
  go_ret
  exact ⟨rfl, h1⟩
set_option maxRecDepth 100000 in
theorem DropAll_nil (k : Int) {W w : World} {R : Asn} (h : St W w R) : Calls Try.prog 21 #[nilP, .int .i64 k] w fun e w' => e = .returned (.slice none 0 0) ∧ St W w' R := by
  have HN := Lib.hid (By_nil k h)
  go_enter Try.func21, Try.ntmps21
  go_wp2_with fail
  refine HN.out.mono ?_
  rintro e w1 ⟨rfl, h1⟩
  go_wp2_with fail
  go_loopw [13] (fun iv wr => iv = .int .i64 0 ∧ St W wr R) (fun _ _ => 0)
  case atStart => exact ⟨rfl, h1⟩
  case round =>
    obtain ⟨rfl, hS⟩ := hrel
    go_wp2
    go_ret
    exact ⟨rfl, hS⟩

set_option maxRecDepth 100000 in
set_option maxHeartbeats 8000000 in
theorem nobody_walk (t : Tx) (_ht : t.length ≤ maxLen) (k : Int) (_hk : (Lit.int .i64 k).wf = true) {W : World} : Calls Try.prog 5 #[.string ⟨t.toArray⟩, .int .i64 k] W (Law W emp) := by
  have h0 := St.start W
  go_enter Try.func5, Try.ntmps5
  go_wp2_with fail
  refine (Add_nil t k h0).mono ?_
  rintro e w1 ⟨rfl, h1⟩
  go_wp2_with fail
  refine (Drop_nil t k h1).mono ?_
  rintro e w2 ⟨rfl, h2⟩
  go_wp2_with fail
  refine (DropAll_nil k h2).mono ?_
  rintro e w3 ⟨rfl, h3⟩
  go_wp2_with fail
  refine (Hears_nil t k h3).mono ?_
  rintro e w4 ⟨rfl, h4⟩
  go_wp2_with fail
  refine (of_nil t h4).mono ?_
  rintro e w5 ⟨rfl, h5⟩
  go_wp2_with fail
  refine (By_nil k h5).mono ?_
  rintro e w6 ⟨rfl, h6⟩
  go_wp2_with fail
  refine (Topics_nil h6).mono ?_
  rintro e w7 ⟨rfl, h7⟩
  go_wp2_with fail
  refine (wakes_any w7).mono ?_
  rintro e w8 hq
  have h8 := h7.makes hq
  obtain ⟨rfl, -⟩ := hq
  go_wp2
  go_ret
  exact ⟨rfl, h8⟩
end Go.Proofs.Ythaekkmnglhinaa.TpW
