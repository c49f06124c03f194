import Derived.Test.YtedkkcbdhbbegaaTmK3
namespace Go.Proofs.Ytedkkcbdhbbegaa.TmN
open Go Go.RowKit Go.Proofs Go.Proofs.Ytedkkcbdhbbegaa.Sep Go.Proofs.Ytedkkcbdhbbegaa.Reg Go.Proofs.Ytedkkcbdhbbegaa.Frame Go.Proofs.Ytedkkcbdhbbegaa.Slc Go.Proofs.Ytedkkcbdhbbegaa.TmP Go.Proofs.Ytedkkcbdhbbegaa.TmQ Go.Proofs.Ytedkkcbdhbbegaa.Rng Go.Proofs.Ytedkkcbdhbbegaa.RngA Go.Proofs.Ytedkkcbdhbbegaa.RngB Go.Proofs.Ytedkkcbdhbbegaa.TmI Go.Proofs.Ytedkkcbdhbbegaa.TmI2 Go.Proofs.Ytedkkcbdhbbegaa.TmI3 Go.Proofs.Ytedkkcbdhbbegaa.TmI4 Go.Proofs.Ytedkkcbdhbbegaa.TmI5 Go.Proofs.Ytedkkcbdhbbegaa.TmI6 Go.Proofs.Ytedkkcbdhbbegaa.TmI7 Go.Proofs.Ytedkkcbdhbbegaa.TmI8 Go.Proofs.Ytedkkcbdhbbegaa.TmK Go.Proofs.Ytedkkcbdhbbegaa.TmK2 Go.Proofs.Ytedkkcbdhbbegaa.TmK3

set_option maxRecDepth 100000
theorem Set_nil (k d : Int) (w : World) : Calls Try.prog 13 #[.pointer none, .int .i64 k, .int .i64 d] w (Makes w (.int .i64 2)) := by
  go_enter Try.func13, Try.ntmps13
  go_wp2
  go_ret
  exact ⟨rfl, Below.refl _ _⟩
theorem Cancel_nil (k : Int) (w : World) : Calls Try.prog 14 #[.pointer none, .int .i64 k] w (Makes w (.bool false)) := by
  go_enter Try.func14, Try.ntmps14
  go_wp2
  go_ret
  exact ⟨rfl, Below.refl _ _⟩
theorem Len_nil (w : World) : Calls Try.prog 20 #[.pointer none] w (Makes w (.int .i64 0)) := by
  go_enter Try.func20, Try.ntmps20
  go_wp2
  go_ret
  exact ⟨rfl, Below.refl _ _⟩
theorem Due_nil (k : Int) (w : World) : Calls Try.prog 11 #[.pointer none, .int .i64 k] w (Makes w (.tuple #[.int .i64 0, .bool false])) := by
  go_enter Try.func11, Try.ntmps11
  go_wp2
  go_ret2
  exact ⟨rfl, Below.refl _ _⟩
theorem All_nil {W w : World} {A : Asn} (h : St W w A) :
    Calls Try.prog 30 #[.pointer none] w fun e w' => ∃ b, e = .returned (.func (.func 42) #[] #[.pointer (some ⟨b, 0, none⟩)]) ∧ St W w' (star (pt b (.cells #[.pointer none] 24 (0, 0))) A) := by
  have h1 := h.alloc (.cells #[.pointer none] 24)
  go_enter Try.func30, Try.ntmps30
  go_wp2
  go_ret
  exact ⟨_, rfl, h1⟩
theorem All1_nil (b y m : Nat) {W w : World} {A : Asn} (h : St W w A) (hb : w.cell? ⟨b, 0, none⟩ = some (.pointer none)) :
    CallsIn Fence.wide (m + 1) Try.prog 42 #[.func (.yield y) #[] #[], .pointer (some ⟨b, 0, none⟩)] w fun e w' => (∃ v, e = .returned v) ∧ St W w' A := by
  refine callsIn_of_wp Try.func42 rfl trivial ?_ rfl
  simp only [Try.ntmps42, List.size_toArray, List.length_cons, List.length_nil, Nat.reduceAdd, Nat.reduceSub, Array.replicate_succ, Array.replicate_zero, List.push_toArray, List.append_toArray, List.nil_append, List.cons_append]
  gi_wp2_with fail
  refine bodyPost_ret (results_none rfl _ _ _) rfl ?_
  exact ⟨⟨_, rfl⟩, h⟩
theorem range_nil {W w : World} {m : Nat} {g : Operand} {params : Array Tmp} {assign body : Code} {Q : Exit → Act → World → Prop} {a : Act} (b : Nat) {A : Asn}
    (hg : a.eval g = .func (.func 42) #[] #[.pointer (some ⟨b, 0, none⟩)]) (h : St W w (star (pt b (.cells #[.pointer none] 24 (0, 0))) A))
    (hdone : ∀ D w4, St W w4 (star (pt D (.deferred (some []))) (star (pt b (.cells #[.pointer none] 24 (0, 0))) A)) → Q .normal { a with defers := { target := .collected D, args := #[] } :: a.defers } w4) :
    (Code.rangeFunc g params assign body).wpIn Fence.wide (m + 2) Try.prog Q a w := by
  refine range_St (Φ := star (pt b (.cells #[.pointer none] 24 (0, 0))) A) (Ψ := fun _ => No) rfl (by omega) hg trivial (enters_of Try.func42 (by kernel_rfl) rfl) h ?_ hdone (fun D c w4 h4 => (St.no h4).elim)
  intro fn l0 D w1 hfn hS
  exact (All1_nil b l0 m hS (hS.right.right.cell 0 rfl)).mono fun e w' hq => ⟨hq.1, .inl hq.2⟩

attribute [local go_sem] Oper.semAt_some
set_option maxHeartbeats 4000000 in
theorem Pop_nil (now : Int) (w : World) : Calls Try.prog 17 #[.pointer none, .int .i64 now] w (Makes w (.slice none 0 0)) := by
  have h1 := (St.start w).alloc (.cells #[.int .i64 now] 3)
  have h2 := h1.alloc (.cells #[.slice none 0 0] 38)
  rw [World.size_alloc] at h2
  have HA := Lib.hid (All_nil h2)
  refine (callsIn_wide (n := 3)).1 (callsIn_of_wp_marks Try.func17 rfl trivial ?_ rfl)
  simp only [Try.ntmps17, List.size_toArray, List.length_cons, List.length_nil, Nat.reduceAdd, Nat.reduceSub, Array.replicate_succ, Array.replicate_zero, List.push_toArray, List.append_toArray, List.nil_append, List.cons_append]
  gi_wp2_with fail
  refine ⟨trivial, callsIn_wide.2 (HA.out.mono ?_)⟩
  rintro e w3 ⟨b, rfl, h3⟩
  clear h1 h2 HA
  generalize w.heap.size + 1 = ob at *
  gi_wp2_with fail
  refine range_nil (m := 1) b rfl h3 ?_
  intro D w4 h4
  have hob := h4.right.right.cell 0 rfl
  have hK := h4.blk
  have h5 := St.putObj h4 (.deferred none)
  clear h3
  gi_wp2_with fail
  gi_loopw [23] (fun iv wr => iv = .int .i64 0 ∧ wr = w4) (fun _ _ => 0)
  case atStart => exact ⟨rfl, rfl⟩
  case round =>
    obtain ⟨rfl, rfl⟩ := hrel
    gi_wp2_with fail
    refine ⟨by simp, .inl ⟨_, _, rfl, run_takeDeferred hK, ?_⟩⟩
    exact ⟨_, results_tmp rfl _ _ _, rfl, h5.below⟩
set_option maxHeartbeats 4000000 in
theorem keys_nil (w : World) : Calls Try.prog 19 #[.pointer none, .int .i64 9] w (Makes w (.slice none 0 0)) := by
  have h1 := (St.start w).alloc (.cells #[.pointer none] 24)
  have h2 := h1.alloc (.cells #[.int .i64 9] 3)
  have h3 := h2.alloc (.cells #[.slice none 0 0] 38)
  have h4 := h3.alloc (.cells #[.slice none 0 0] 38)
  simp only [World.size_alloc] at h2 h3 h4
  refine (callsIn_wide (n := 3)).1 (callsIn_of_wp_marks Try.func19 rfl trivial ?_ rfl)
  simp only [Try.ntmps19, List.size_toArray, List.length_cons, List.length_nil, Nat.reduceAdd, Nat.reduceSub, Array.replicate_succ, Array.replicate_zero, List.push_toArray, List.append_toArray, List.nil_append, List.cons_append]
  gi_wp2_with fail
  have HA := Lib.hid (All_nil h4)
  refine ⟨trivial, callsIn_wide.2 (HA.out.mono ?_)⟩
  rintro e w3 ⟨b1, rfl, h5⟩
  have HA2 := Lib.hid (All_nil h5)
  have hN : ∀ f g h, (binOp .eql 67 (.func f g h) .nilFunc).run Try.prog w3 = .ok (.bool false) w3 := by intro f g h; rfl
  obtain ⟨mb, hmb⟩ : ∃ mb, w.heap.size + 1 = mb := ⟨_, rfl⟩
  obtain ⟨rb, hrb⟩ : ∃ rb, mb + 1 = rb := ⟨_, rfl⟩
  obtain ⟨ob, hob⟩ : ∃ ob, rb + 1 = ob := ⟨_, rfl⟩
  rw [hmb, hrb, hob] at h5 ⊢
  rw [hmb, hrb, hob] at HA2
  generalize w.heap.size = tb at *
  clear h1 h2 h3 h4 HA
  have ht0 := h5.right.right.right.right.cell 0 rfl
  gi_wp2_with fail
  refine ⟨trivial, callsIn_wide.2 (HA2.out.mono ?_)⟩
  rintro e w4 ⟨b, rfl, h6⟩
  clear HA2 h5 ht0 hN
  gi_wp2_with fail
  refine range_nil (m := 1) b rfl h6 ?_
  intro D w5 h7
  have hob := h7.right.right.right.cell 0 rfl
  have h8 := h7.eq (B := star (pt rb (.cells #[.slice none 0 0] 38 (0, 0))) (star (pt D (.deferred (some []))) (star (pt b (.cells #[.pointer none] 24 (0, 0))) (star (pt b1 (.cells #[.pointer none] 24 (0, 0))) (star (pt ob (.cells #[.slice none 0 0] 38 (0, 0))) (star (pt mb (.cells #[.int .i64 9] 3 (0, 0))) (star (pt tb (.cells #[.pointer none] 24 (0, 0))) emp))))))) (by ac_rfl)
  have hrf := h8.free 0
  have hrb0 := h8.cell 0 rfl
  have h9 := h8.setCell 0 (.slice none 0 0)
  have hK := h9.right.blk
  have h10 := St.putObj h9.swap (.deferred none)
  have hrd := h10.right.cell 0 rfl
  clear h6
  gi_wp2_with fail
  refine ⟨by simp, .inl ⟨_, _, rfl, run_takeDeferred hK, ?_⟩⟩
  exact ⟨.slice none 0 0, by simp [results, Try.results19, go_sem, hrd], rfl, h10.below⟩
end Go.Proofs.Ytedkkcbdhbbegaa.TmN
