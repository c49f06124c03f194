import Derived.Test.YtedkkcbdhbbegaaTmK
namespace Go.Proofs.Ytedkkcbdhbbegaa.TmK2
open Go Go.RowKit Go.Proofs Go.Proofs.Ytedkkcbdhbbegaa.Sep Go.Proofs.Ytedkkcbdhbbegaa.Reg Go.Proofs.Ytedkkcbdhbbegaa.Frame Go.Proofs.Ytedkkcbdhbbegaa.Slc Go.Proofs.Ytedkkcbdhbbegaa.TmP Go.Proofs.Ytedkkcbdhbbegaa.TmQ Go.Proofs.Ytedkkcbdhbbegaa.Rng Go.Proofs.Ytedkkcbdhbbegaa.RngA Go.Proofs.Ytedkkcbdhbbegaa.RngB Go.Proofs.Ytedkkcbdhbbegaa.TmI Go.Proofs.Ytedkkcbdhbbegaa.TmI2 Go.Proofs.Ytedkkcbdhbbegaa.TmI3 Go.Proofs.Ytedkkcbdhbbegaa.TmI4 Go.Proofs.Ytedkkcbdhbbegaa.TmI5 Go.Proofs.Ytedkkcbdhbbegaa.TmI6 Go.Proofs.Ytedkkcbdhbbegaa.TmI7 Go.Proofs.Ytedkkcbdhbbegaa.TmI8 Go.Proofs.Ytedkkcbdhbbegaa.TmK

attribute [local go_sem] Oper.semAt_some
def KI (b ob tb mb rb p : Nat) (v : Value) (l : List (κ × Int)) (most : Int) (R : Asn) (ks : List Int) : Asn :=
  star (pt b (.cells #[.pointer (some ⟨p, 0, none⟩)] 24 (0, 0))) (star (Held ob 38 3 ks.length (intV ks)) (star (pt tb (.cells #[.pointer (some ⟨p, 0, none⟩)] 24 (0, 0))) (star (pt mb (.cells #[.int .i64 most] 3 (0, 0))) (star (pt rb (.cells #[.slice none 0 0] 38 (0, 0))) (star (IsT p v l) R)))))
def KPost (W : World) (p : Nat) (v : Value) (l : List (κ × Int)) (most : Nat) (R : Asn) (e : Ending) (w' : World) : Prop :=
  ∃ o, e = .returned o ∧ St W w' (star (Row 3 1 o (keysOf (l.take most)).length (intV (keysOf (l.take most)))) (star (IsT p v l) R))
def KF (I : List Int → Asn) (most : Nat) (pre : List (κ × Int)) : Asn := if pre.length < most then I (keysOf pre) else No
theorem dueP_in {l pre post : List (κ × Int)} {k : κ} {d : Int} (hn : (keysOf l).Nodup) (hx : l = pre ++ (k, d) :: post) : dueP k l = some d := by
  subst hx
  have hk : k ∉ keysOf pre := by
    intro hk
    unfold keysOf at hn hk
    rw [List.map_append, List.map_cons] at hn
    exact (List.nodup_append.1 hn).2.2 k hk k (by simp) rfl
  have hf : pre.find? (fun x => decide (x.1 = k)) = none := by
    rw [List.find?_eq_none]
    rintro ⟨a, b⟩ hab
    simp only [decide_eq_true_eq]
    rintro rfl
    exact hk (List.mem_map_of_mem (f := (·.1)) hab)
  simp [dueP, List.find?_append, hf]
set_option maxRecDepth 100000 in
set_option maxHeartbeats 8000000 in
theorem keys_any (p : Nat) (v : Value) (l : List (κ × Int)) (hnd : (keysOf l).Nodup) (hl : l.length ≤ 1000000) (most : Nat) (hm : 1 ≤ most) (hm2 : most ≤ 1000000) {W w : World} {R : Asn} (h : St W w (star (IsT p v l) R)) :
    Calls Try.prog 19 #[.pointer (some ⟨p, 0, none⟩), .int .i64 most] w (KPost W p v l most R) := by
  have h1 := h.alloc (.cells #[.pointer (some ⟨p, 0, none⟩)] 24)
  have h2 := h1.alloc (.cells #[.int .i64 most] 3)
  have h3 := h2.alloc (.cells #[.slice none 0 0] 38)
  have h4 := h3.alloc (.cells #[.slice none 0 0] 38)
  simp only [World.size_alloc] at h2 h3 h4
  refine (callsIn_wide (n := 3)).1 (callsIn_of_wp_marks Try.func19 rfl trivial ?_ rfl)
  simp only [Try.ntmps19, List.size_toArray, List.length_cons, List.length_nil, Nat.reduceAdd, Nat.reduceSub, Array.replicate_succ, Array.replicate_zero, List.push_toArray, List.append_toArray, List.nil_append, List.cons_append]
  have hm3 : ¬ (most : Int) < 1 := by omega
  gi_wp2_with fail
  have HA := Lib.hid (All_any p h4)
  refine ⟨trivial, callsIn_wide.2 (HA.out.mono ?_)⟩
  rintro e w3 ⟨b1, rfl, h5⟩
  have HA2 := Lib.hid (All_any p h5)
  have hN : ∀ f g h, (binOp .eql 67 (.func f g h) .nilFunc).run Try.prog w3 = .ok (.bool false) w3 := by intro f g h; rfl
  obtain ⟨mb, hmb⟩ : ∃ mb, w.heap.size + 1 = mb := ⟨_, rfl⟩
  obtain ⟨rb, hrb⟩ : ∃ rb, mb + 1 = rb := ⟨_, rfl⟩
  obtain ⟨ob, hob⟩ : ∃ ob, rb + 1 = ob := ⟨_, rfl⟩
  rw [hmb, hrb, hob] at h5 ⊢
  rw [hmb, hrb, hob] at HA2
  generalize w.heap.size = tb at *
  clear h1 h2 h3 h4 HA h
  have ht := h5.eq (B := star (pt tb (.cells #[.pointer (some ⟨p, 0, none⟩)] 24 (0, 0))) (star (pt b1 (.cells #[.pointer (some ⟨p, 0, none⟩)] 24 (0, 0))) (star (pt ob (.cells #[.slice none 0 0] 38 (0, 0))) (star (pt rb (.cells #[.slice none 0 0] 38 (0, 0))) (star (pt mb (.cells #[.int .i64 most] 3 (0, 0))) (star (IsT p v l) R)))))) (by ac_rfl)
  have ht0 := ht.cell 0 rfl
  gi_wp2_with fail
  refine ⟨trivial, callsIn_wide.2 (HA2.out.mono ?_)⟩
  rintro e w4 ⟨b, rfl, h6⟩
  clear HA2 h5 ht ht0 hN
  have h7 : St W w4 (KF (KI b ob tb mb rb p v l most (star (pt b1 (.cells #[.pointer (some ⟨p, 0, none⟩)] 24 (0, 0))) R)) most []) := by
    unfold KF
    rw [if_pos (by simp; omega)]
    have h8 := h6.eq (B := star (pt ob (.cells #[.slice none 0 0] 38 (0, 0))) (star (pt b (.cells #[.pointer (some ⟨p, 0, none⟩)] 24 (0, 0))) (star (pt tb (.cells #[.pointer (some ⟨p, 0, none⟩)] 24 (0, 0))) (star (pt b1 (.cells #[.pointer (some ⟨p, 0, none⟩)] 24 (0, 0))) (star (pt rb (.cells #[.slice none 0 0] 38 (0, 0))) (star (pt mb (.cells #[.int .i64 most] 3 (0, 0))) (star (IsT p v l) R))))))) (by ac_rfl)
    have h9 := St.toHeld (h8.nilRow (e := 3) (size := 1)).swap
    unfold KI
    exact h9.eq (by show star (Held _ _ _ 0 []) _ = _; ac_rfl)
  clear h6
  gi_wp2_with fail
  refine range_all (m := 1) (fun x => { tmps := #[.pointer (some ⟨p, 0, none⟩), .int .i64 most, .pointer (some ⟨tb, 0, none⟩), .pointer (some ⟨mb, 0, none⟩), .pointer (some ⟨rb, 0, none⟩), .pointer (some ⟨ob, 0, none⟩), kv x.1, .int .i64 x.2, undef, undef, .int .i64 most, .bool false, .pointer (some ⟨p, 0, none⟩), .func (.func 42) #[] #[.pointer (some ⟨b1, 0, none⟩)], .bool false, .pointer (some ⟨p, 0, none⟩), .func (.func 42) #[] #[.pointer (some ⟨b, 0, none⟩)], kv x.1, .int .i64 x.2, undef, undef, undef, undef, undef, undef, undef, undef, undef, undef, undef, undef, undef, undef, undef, undef, undef, undef, undef, undef, undef, undef], defers := [] }) p b v l hl (KF (KI b ob tb mb rb p v l most (star (pt b1 (.cells #[.pointer (some ⟨p, 0, none⟩)] 24 (0, 0))) R)) most) (KI b ob tb mb rb p v l most (star (pt b1 (.cells #[.pointer (some ⟨p, 0, none⟩)] 24 (0, 0))) R) (keysOf (l.take most))) rfl rfl h7 ?cells ?assign ?round (fun _ _ h => h) ?done
  case cells =>
    intro w5 h5
    unfold KF at h5
    rw [if_pos (by simp; omega)] at h5
    unfold KI at h5
    have h6 := St.isT h5.right.right.right.right.right
    exact ⟨h5.cell 0 rfl, h6.cell 0 rfl, h6.right.rowSl⟩
  case assign =>
    rintro ⟨k, d⟩ l0 w5 K hK
    gi_wp2_with fail
    exact hK
  case round =>
    rintro pre ⟨k, d⟩ post hx0 l0 busy C w5 h5
    have hx := Lib.hid hx0
    clear hx0
    generalize star (pt b1 (.cells #[.pointer (some ⟨p, 0, none⟩)] 24 (0, 0))) R = R1 at *
    by_cases hpm : pre.length < most
    · unfold KF at h5
      rw [if_pos hpm] at h5
      unfold KI at h5
      obtain ⟨ov, h6⟩ := St.held (R := star (pt tb (.cells #[.pointer (some ⟨p, 0, none⟩)] 24 (0, 0))) (star (pt mb (.cells #[.int .i64 most] 3 (0, 0))) (star (pt rb (.cells #[.slice none 0 0] 38 (0, 0))) (star (pt l0 (.loop busy)) (star C (star (pt b (.cells #[.pointer (some ⟨p, 0, none⟩)] 24 (0, 0))) (star (IsT p v l) R1))))))) (h5.eq (by ac_rfl))
      have htb := h6.right.right.cell 0 rfl
      have hkl : (keysOf pre).length = pre.length := by simp [keysOf]
      have hDq := dueP_in hnd hx.out
      have HD := Lib.hid (Due_any p v l k (.tuple #[.int .i64 d, .bool true]) (by rw [hDq]; rfl) (h6.eq (B := star (IsT p v l) (star (pt ob (.cells #[ov] 38 (0, 0))) (star (Row 3 1 ov (keysOf pre).length (intV (keysOf pre))) (star (pt tb (.cells #[.pointer (some ⟨p, 0, none⟩)] 24 (0, 0))) (star (pt mb (.cells #[.int .i64 most] 3 (0, 0))) (star (pt rb (.cells #[.slice none 0 0] 38 (0, 0))) (star (pt l0 (.loop busy)) (star C (star (pt b (.cells #[.pointer (some ⟨p, 0, none⟩)] 24 (0, 0))) R1))))))))) (by ac_rfl)))
      clear h5 hDq
      gi_wp2_with fail
      refine ⟨trivial, CallsIn.inRound l0 (callsIn_wide.2 (HD.out.mono ?_))⟩
      rintro e w6 hq
      have h8 := h6.makes hq
      obtain ⟨rfl, -⟩ := hq
      have hob := h8.cell 0 rfl
      have hmb0 := h8.right.right.right.cell 0 rfl
      have hlen : (keysOf pre).length ≤ 1000000 := by omega
      have h9 := h8.alloc (.cells #[.int .i64 k] 3)
      have h10 : St W (w6.alloc (.cells #[.int .i64 k] 3)) (star (Row 3 1 ov (keysOf pre).length (intV (keysOf pre))) (star (pt ob (.cells #[ov] 38 (0, 0))) (star (pt mb (.cells #[.int .i64 most] 3 (0, 0))) (star (pt tb (.cells #[.pointer (some ⟨p, 0, none⟩)] 24 (0, 0))) (star (pt rb (.cells #[.slice none 0 0] 38 (0, 0))) (star (pt l0 (.loop busy)) (star C (star (pt b (.cells #[.pointer (some ⟨p, 0, none⟩)] 24 (0, 0))) (star (IsT p v l) R1))))))))) := (h9.right).eq (by ac_rfl)
      have hone : Sl (w6.alloc (.cells #[.int .i64 k] 3)) 1 (.slice (some ⟨w6.heap.size, 0, none⟩) 1 1) 1 [.int .i64 k] := ⟨rfl, _, _, rfl, Nat.le_refl _, by decide, (by intro h; cases h), fun ad hd i u hu => by
        cases hd
        have hadd : (⟨w6.heap.size, 0, none⟩ : Addr).add i = ⟨w6.heap.size, i, none⟩ := by unfold Addr.add; split <;> simp_all
        rw [hadd]
        exact h9.cell i (by simpa using hu)⟩
      obtain ⟨i0, hi0, hz0, hz1, hz2⟩ := info_parts infoK
      have U := Try.underlying38
      have hdd : (d != d) = false := by simp
      have HPM : Hid (pre.length < most) := Lib.hid hpm
      have HKL : Hid ((keysOf pre).length = pre.length) := Lib.hid hkl
      clear hpm hkl
      by_cases hq : (keysOf pre).length + 1 = most
      · have hqe : (((keysOf pre).length + 1 : Nat) : Int) = (most : Int) := by omega
        gi_wp2_with (gi_at_builtin; refine wpListIn_append_Sl rfl (.tmp 32) (.tmp 34) 38 rfl 3 i0 (.int .i64 0) 1 8 U hi0 hz0 hz1 hz2 rfl ov _ _ rfl h10 _ 1 [.int .i64 k] rfl hone (by intro u hu; simp at hu; subst hu; rfl) (by unfold maxLen; omega) (by omega) ?_; intro v9 w9 hS9 hv9; obtain ⟨_, a9, c9, rfl, _⟩ := id hS9.rowSl; have hc9 := hS9.swap.cell 0 rfl; have hf9 := hS9.swap.free 0; have hm9 := hS9.right.right.cell 0 rfl)
        rw [hq] at hS9
        have h11 := hS9.swap.setCell 0 (.slice a9 most c9)
        have hlk := HKL.out
        have et : l.take most = pre ++ [(k, d)] := by rw [hx.out, show most = pre.length + 1 from by omega, List.take_length_add_append]; rfl
        have ek : keysOf (l.take most) = keysOf pre ++ [k] := by rw [et]; simp [keysOf]
        have el : (keysOf pre ++ [k]).length = most := by simp; omega
        have ev : intV (keysOf pre ++ [k]) = intV (keysOf pre) ++ [.int .i64 k] := by simp [intV]
        show St W _ (star (pt l0 (.loop busy)) (star C (KI b ob tb mb rb p v l most R1 (keysOf (l.take most)))))
        exact (St.toHeld h11).eq (by unfold KI; rw [ek, el, ev]; ac_rfl)
      · have hqe : ¬ (((keysOf pre).length + 1 : Nat) : Int) = (most : Int) := by omega
        gi_wp2_with (gi_at_builtin; refine wpListIn_append_Sl rfl (.tmp 32) (.tmp 34) 38 rfl 3 i0 (.int .i64 0) 1 8 U hi0 hz0 hz1 hz2 rfl ov _ _ rfl h10 _ 1 [.int .i64 k] rfl hone (by intro u hu; simp at hu; subst hu; rfl) (by unfold maxLen; omega) (by omega) ?_; intro v9 w9 hS9 hv9; obtain ⟨_, a9, c9, rfl, _⟩ := id hS9.rowSl; have hc9 := hS9.swap.cell 0 rfl; have hf9 := hS9.swap.free 0; have hm9 := hS9.right.right.cell 0 rfl)
        have h11 := hS9.swap.setCell 0 (.slice a9 ((keysOf pre).length + 1) c9)
        have hlk := HKL.out
        have hpl := HPM.out
        have ek : keysOf (pre ++ [(k, d)]) = keysOf pre ++ [k] := by simp [keysOf]
        have el : (keysOf pre ++ [k]).length = (keysOf pre).length + 1 := by simp
        have ev : intV (keysOf pre ++ [k]) = intV (keysOf pre) ++ [.int .i64 k] := by simp [intV]
        show St W _ (star (pt l0 (.loop busy)) (star C (KF (KI b ob tb mb rb p v l most R1) most (pre ++ [(k, d)]))))
        unfold KF
        rw [if_pos (by simp; omega)]
        exact (St.toHeld h11).eq (by unfold KI; rw [ek, el, ev]; ac_rfl)
    · exact (St.no (R := star (pt l0 (.loop busy)) C) (h5.eq (by unfold KF; rw [if_neg hpm]; ac_rfl))).elim
  case done =>
    rintro D w5 h5
    clear h7
    have h6 : St W w5 (star (pt D (.deferred (some []))) (KI b ob tb mb rb p v l most (star (pt b1 (.cells #[.pointer (some ⟨p, 0, none⟩)] 24 (0, 0))) R) (keysOf (l.take most)))) := by
      rcases h5 with h5 | h5
      · by_cases hlm : l.length < most
        · unfold KF at h5
          rw [if_pos hlm] at h5
          rw [List.take_of_length_le (by omega)]
          exact h5
        · unfold KF at h5
          rw [if_neg hlm] at h5
          exact (St.no h5).elim
      · exact h5
    clear h5
    generalize hks : keysOf (l.take most) = ks at *
    have hks := Lib.hid hks
    unfold KI at h6
    obtain ⟨ov, h7⟩ := St.held (R := star (pt rb (.cells #[.slice none 0 0] 38 (0, 0))) (star (pt D (.deferred (some []))) (star (star (pt b (.cells #[.pointer (some ⟨p, 0, none⟩)] 24 (0, 0))) (star (pt tb (.cells #[.pointer (some ⟨p, 0, none⟩)] 24 (0, 0))) (star (pt mb (.cells #[.int .i64 most] 3 (0, 0))) (pt b1 (.cells #[.pointer (some ⟨p, 0, none⟩)] 24 (0, 0)))))) (star (IsT p v l) R)))) (h6.eq (by ac_rfl))
    obtain ⟨_, oa, oc, rfl, _⟩ := id h7.right.rowSl
    have hob := h7.cell 0 rfl
    have h8 := h7.right.swap
    have hrb0 := h8.cell 0 rfl
    have hrf := h8.free 0
    have h9 := h8.setCell 0 (.slice oa ks.length oc)
    have hK := h9.right.right.blk
    have hrc := h9.cell 0 rfl
    gi_wp2_with fail
    refine ⟨by simp, .inl ⟨_, _, rfl, run_takeDeferred hK, ?_⟩⟩
    have h10 := St.putObj (h9.eq (B := star (pt D (.deferred (some []))) (star (pt rb (.cells #[.slice oa ks.length oc] 38 (0, 0))) (star (Row 3 1 (.slice oa ks.length oc) ks.length (intV ks)) (star (star (pt b (.cells #[.pointer (some ⟨p, 0, none⟩)] 24 (0, 0))) (star (pt tb (.cells #[.pointer (some ⟨p, 0, none⟩)] 24 (0, 0))) (star (pt mb (.cells #[.int .i64 most] 3 (0, 0))) (pt b1 (.cells #[.pointer (some ⟨p, 0, none⟩)] 24 (0, 0)))))) (star (IsT p v l) R))))) (by ac_rfl)) (.deferred none)
    have hrd := h10.right.cell 0 rfl
    refine ⟨.slice oa ks.length oc, by simp [results, Try.results19, go_sem, hrd], _, rfl, ?_⟩
    rw [hks.out]
    exact St.right (h10.right.right.eq (star_left_comm _ _ _))
end Go.Proofs.Ytedkkcbdhbbegaa.TmK2
