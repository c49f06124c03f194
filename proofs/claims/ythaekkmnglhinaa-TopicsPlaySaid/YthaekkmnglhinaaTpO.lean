import Derived.Test.YthaekkmnglhinaaTpN
namespace Go.Proofs.Ythaekkmnglhinaa.TpO
open Go Go.RowKit Go.Proofs Go.Proofs.Ythaekkmnglhinaa.Sep Go.Proofs.Ythaekkmnglhinaa.Reg Go.Proofs.Ythaekkmnglhinaa.Frame Go.Proofs.Ythaekkmnglhinaa.Rng Go.Proofs.Ythaekkmnglhinaa.RngA Go.Proofs.Ythaekkmnglhinaa.RngB Go.Proofs.Ythaekkmnglhinaa.Strs Go.Proofs.Ythaekkmnglhinaa.Mp Go.Proofs.Ythaekkmnglhinaa.Ms Go.Proofs.Ythaekkmnglhinaa.TpP Go.Proofs.Ythaekkmnglhinaa.TpA Go.Proofs.Ythaekkmnglhinaa.TpB Go.Proofs.Ythaekkmnglhinaa.TpI Go.Proofs.Ythaekkmnglhinaa.TpJ Go.Proofs.Ythaekkmnglhinaa.TpK Go.Proofs.Ythaekkmnglhinaa.TpL Go.Proofs.Ythaekkmnglhinaa.TpM Go.Proofs.Ythaekkmnglhinaa.TpN

/-- What lies while those who hear a topic are gathered: the slice so far, the rest. -/
def OI (ob mb rb b1 b2 p : Nat) (t : Tx) (most : Nat) (l : List Pr) (R : Asn) (pre : List Int) : Asn :=
  star (pt b1 (.cells #[.pointer (some ⟨p, 0, none⟩)] 24 (0, 0))) (star (pt b2 (.cells #[kS t] 9 (0, 0))) (star (Held ob 22 3 pre.length (pre.map kI)) (star (pt rb (.cells #[.slice none 0 0] 22 (0, 0))) (star (pt mb (.cells #[.int .i64 most] 3 (0, 0))) (star (IsR p l) R)))))
def OF (ob mb rb b1 b2 p : Nat) (t : Tx) (most : Nat) (l : List Pr) (R : Asn) (pre : List Int) : Asn := if pre.length < most then OI ob mb rb b1 b2 p t most l R pre else No
def OG (ob mb rb b1 b2 p : Nat) (t : Tx) (most : Nat) (l : List Pr) (R : Asn) : Code → Asn
  | .exit 0 => OI ob mb rb b1 b2 p t most l R ((ofP l t).take most)
  | _ => No
def OPst (W : World) (p : Nat) (l : List Pr) (o : List Int) (R : Asn) (e : Ending) (w' : World) : Prop :=
  ∃ a c, e = .returned (.slice a o.length c) ∧ St W w' (star (Row 3 1 (.slice a o.length c) o.length (o.map kI)) (star (IsR p l) R))
attribute [local go_sem] Oper.semAt_some
set_option maxRecDepth 100000 in
set_option maxHeartbeats 8000000 in
theorem of_any (p : Nat) (l : List Pr) (hl : l.length ≤ 1000000) (t : Tx) (most : Nat) (hm : 1 ≤ most) (hm2 : most ≤ 1000000) (o : List Int) (ho : (ofP l t).take most = o) (mi : Int) (hmi : mi = most) {W w : World} {R : Asn} (h : St W w (star (IsR p l) R)) :
    Calls Try.prog 12 #[.pointer (some ⟨p, 0, none⟩), kS t, .int .i64 mi] w (OPst W p l o R) := by
  subst hmi
  have HO := Lib.hid ho
  clear ho
  have h1 := h.alloc (.cells #[.int .i64 most] 3)
  have h2 := h1.alloc (.cells #[.slice none 0 0] 22)
  have h3 := h2.alloc (.cells #[.slice none 0 0] 22)
  simp only [World.size_alloc] at h2 h3
  refine (callsIn_wide (n := 3)).1 (callsIn_of_wp_marks Try.func12 rfl trivial ?_ rfl)
  simp only [Try.ntmps12, List.size_toArray, List.length_cons, List.length_nil, Nat.reduceAdd, Nat.reduceSub, Array.replicate_succ, Array.replicate_zero, List.push_toArray, List.append_toArray, List.nil_append, List.cons_append]
  have hm3 : ¬ (most : Int) < 1 := by omega
  gi_wp2_with fail
  have HA := Lib.hid (Of_any p t h3)
  refine ⟨trivial, callsIn_wide.2 (HA.out.mono ?_)⟩
  rintro e w3 ⟨c1, c2, rfl, h5⟩
  have HA2 := Lib.hid (Of_any p t h5)
  have hN : ∀ f g h, (binOp .eql 50 (.func f g h) .nilFunc).run Try.prog w3 = .ok (.bool false) w3 := by intro f g h; rfl
  obtain ⟨rb, hrb⟩ : ∃ rb, w.heap.size + 1 = rb := ⟨_, rfl⟩
  obtain ⟨ob, hob⟩ : ∃ ob, rb + 1 = ob := ⟨_, rfl⟩
  rw [hrb, hob] at h5 ⊢
  rw [hrb, hob] at HA2
  generalize w.heap.size = mb at *
  clear h1 h2 h3 HA h h5
  gi_wp2_with fail
  refine ⟨trivial, callsIn_wide.2 (HA2.out.mono ?_)⟩
  rintro e w4 ⟨b1, b2, rfl, h6⟩
  clear HA2 hN
  have h7 : St W w4 (OF ob mb rb b1 b2 p t most l (star (pt c1 (.cells #[.pointer (some ⟨p, 0, none⟩)] 24 (0, 0))) (star (pt c2 (.cells #[kS t] 9 (0, 0))) R)) []) := by
    unfold OF
    rw [if_pos (by simp; omega)]
    have h8 := h6.eq (B := star (pt ob (.cells #[.slice none 0 0] 22 (0, 0))) (star (pt b1 (.cells #[.pointer (some ⟨p, 0, none⟩)] 24 (0, 0))) (star (pt b2 (.cells #[kS t] 9 (0, 0))) (star (pt rb (.cells #[.slice none 0 0] 22 (0, 0))) (star (pt mb (.cells #[.int .i64 most] 3 (0, 0))) (star (IsR p l) (star (pt c1 (.cells #[.pointer (some ⟨p, 0, none⟩)] 24 (0, 0))) (star (pt c2 (.cells #[kS t] 9 (0, 0))) R)))))))) (by ac_rfl)
    have h9 := St.toHeld (h8.nilRow (e := 3) (size := 1)).swap
    unfold OI
    exact h9.eq (by show star (Held _ _ _ 0 []) _ = _; ac_rfl)
  clear h6
  generalize hR1 : star (pt c1 (.cells #[.pointer (some ⟨p, 0, none⟩)] 24 (0, 0))) (star (pt c2 (.cells #[kS t] 9 (0, 0))) R) = R1 at *
  have HR1 := Lib.hid hR1
  clear hR1
  gi_wp2_with fail
  have hol : (ofP l t).length ≤ 1000000 := Nat.le_trans (ofP_le l t) hl
  refine range_of (m := 1) (fun i x => { tmps := #[.pointer (some ⟨p, 0, none⟩), kS t, .int .i64 most, undef, undef, .pointer (some ⟨mb, 0, none⟩), .pointer (some ⟨rb, 0, none⟩), .pointer (some ⟨ob, 0, none⟩), .int .i64 i, .int .i64 x, .int .i64 most, .bool false, .pointer (some ⟨p, 0, none⟩), kS t, .func (.func 33) #[] #[.pointer (some ⟨c1, 0, none⟩), .pointer (some ⟨c2, 0, none⟩)], .bool false, .pointer (some ⟨p, 0, none⟩), kS t, .func (.func 33) #[] #[.pointer (some ⟨b1, 0, none⟩), .pointer (some ⟨b2, 0, none⟩)], .int .i64 i, .int .i64 x, undef, undef, undef, undef, undef, undef, undef, undef, undef, undef, undef, undef, undef], defers := [] })
    p b1 b2 t (ofP l t) hol (OF ob mb rb b1 b2 p t most l R1) (OG ob mb rb b1 b2 p t most l R1) rfl rfl h7 ?cells ?assign ?round ?done ?stop
  case cells =>
    intro w5 h5
    unfold OF OI at h5
    rw [if_pos (by simp; omega)] at h5
    exact ⟨h5.cell 0 rfl, h5.right.cell 0 rfl, reads_of h5.right.right.right.right.right t⟩
  case assign =>
    rintro i x l0 w5 K hK
    gi_wp2_with fail
    exact hK
  case round =>
    rintro pre k post hx0 l0 busy C w5 h5
    have hx := Lib.hid hx0
    clear hx0
    by_cases hpm : pre.length < most
    · unfold OF at h5
      rw [if_pos hpm] at h5
      unfold OI at h5
      obtain ⟨ov, h6⟩ := St.held (R := star (pt mb (.cells #[.int .i64 most] 3 (0, 0))) (star (pt rb (.cells #[.slice none 0 0] 22 (0, 0))) (star (pt l0 (.loop busy)) (star C (star (pt b1 (.cells #[.pointer (some ⟨p, 0, none⟩)] 24 (0, 0))) (star (pt b2 (.cells #[kS t] 9 (0, 0))) (star (IsR p l) R1))))))) (h5.eq (by ac_rfl))
      obtain ⟨_, va, vk, rfl, _⟩ := id h6.right.rowSl
      have hob := h6.cell 0 rfl
      have hmb0 := h6.right.right.cell 0 rfl
      have hlen : pre.length ≤ 1000000 := by omega
      have h9 := h6.alloc (.cells #[.int .i64 k] 3)
      have h10 : St W (w5.alloc (.cells #[.int .i64 k] 3)) (star (Row 3 1 (.slice va pre.length vk) pre.length (pre.map kI)) (star (pt ob (.cells #[.slice va pre.length vk] 22 (0, 0))) (star (pt mb (.cells #[.int .i64 most] 3 (0, 0))) (star (pt rb (.cells #[.slice none 0 0] 22 (0, 0))) (star (pt l0 (.loop busy)) (star C (star (pt b1 (.cells #[.pointer (some ⟨p, 0, none⟩)] 24 (0, 0))) (star (pt b2 (.cells #[kS t] 9 (0, 0))) (star (IsR p l) R1))))))))) := (h9.right).eq (by ac_rfl)
      have hone : Sl (w5.alloc (.cells #[.int .i64 k] 3)) 1 (.slice (some ⟨w5.heap.size, 0, none⟩) 1 1) 1 [.int .i64 k] := (St.mkRow (size := 1) (n := 1) (cap := 1) (xs := [.int .i64 k]) h9 (Nat.le_refl _) (by unfold maxLen; omega) rfl rfl).rowSl
      obtain ⟨i0, hi0, hz0, hz1, hz2⟩ := info_parts infoI
      have U := Try.underlying22
      have hdd : ((pre.length : Int) != (pre.length : Int)) = false := by simp
      have HPM : Hid (pre.length < most) := Lib.hid hpm
      clear hpm h5 h6 h9
      by_cases hq : pre.length + 1 = most
      · have hqe : ((pre.length + 1 : Nat) : Int) = (most : Int) := by omega
        gi_wp2_with (gi_at_builtin; refine wpListIn_append_Sl rfl (.tmp 25) (.tmp 27) 22 rfl 3 i0 (.int .i64 0) 1 8 U hi0 hz0 hz1 hz2 rfl (.slice va pre.length vk) _ _ rfl h10 _ 1 [.int .i64 k] rfl hone (oneI [k]) (by unfold maxLen; omega) (by omega) ?_; intro v9 w9 hS9 hv9; obtain ⟨_, a9, c9, rfl, _⟩ := id hS9.rowSl; have hc9 := hS9.swap.cell 0 rfl; have hf9 := hS9.swap.free 0; have hm9 := hS9.right.right.cell 0 rfl)
        rw [hq] at hS9
        have h11 := hS9.swap.setCell 0 (.slice a9 most c9)
        have et : (ofP l t).take most = pre ++ [k] := by rw [hx.out, show most = pre.length + 1 from by omega, List.take_length_add_append]; rfl
        have el : (pre ++ [k]).length = most := by simp; omega
        have ev : (pre ++ [k]).map kI = pre.map kI ++ [.int .i64 k] := by simp
        show St W _ (star (pt l0 (.loop busy)) (star C (OI ob mb rb b1 b2 p t most l R1 ((ofP l t).take most))))
        exact (St.toHeld h11).eq (by unfold OI; rw [et, el, ev]; ac_rfl)
      · have hqe : ¬ ((pre.length + 1 : Nat) : Int) = (most : Int) := by omega
        gi_wp2_with (gi_at_builtin; refine wpListIn_append_Sl rfl (.tmp 25) (.tmp 27) 22 rfl 3 i0 (.int .i64 0) 1 8 U hi0 hz0 hz1 hz2 rfl (.slice va pre.length vk) _ _ rfl h10 _ 1 [.int .i64 k] rfl hone (oneI [k]) (by unfold maxLen; omega) (by omega) ?_; intro v9 w9 hS9 hv9; obtain ⟨_, a9, c9, rfl, _⟩ := id hS9.rowSl; have hc9 := hS9.swap.cell 0 rfl; have hf9 := hS9.swap.free 0; have hm9 := hS9.right.right.cell 0 rfl)
        have h11 := hS9.swap.setCell 0 (.slice a9 (pre.length + 1) c9)
        have hpl := HPM.out
        have el : (pre ++ [k]).length = pre.length + 1 := by simp
        have ev : (pre ++ [k]).map kI = pre.map kI ++ [.int .i64 k] := by simp
        show St W _ (star (pt l0 (.loop busy)) (star C (OF ob mb rb b1 b2 p t most l R1 (pre ++ [k]))))
        unfold OF
        rw [if_pos (by simp; omega)]
        exact (St.toHeld h11).eq (by unfold OI; rw [el, ev]; ac_rfl)
    · exact (St.no (R := star (pt l0 (.loop busy)) C) (h5.eq (by unfold OF; rw [if_neg hpm]; ac_rfl))).elim
  case done =>
    rintro D w5 h5
    by_cases hlm : (ofP l t).length < most
    · have hoo : o = ofP l t := by rw [← HO.out, List.take_of_length_le (by omega)]
      have HFIN : Hid (St W w5 (star (pt D (.deferred (some []))) (OI ob mb rb b1 b2 p t most l R1 o))) := Lib.hid (by
        unfold OF at h5
        rw [if_pos hlm] at h5
        rw [hoo]
        exact h5)
      clear h5 h7 hoo hlm
      have h6 : St W w5 (star (pt D (.deferred (some []))) (OI ob mb rb b1 b2 p t most l R1 o)) := HFIN.out
      unfold OI at h6
      obtain ⟨ov, h7⟩ := St.held (R := star (pt rb (.cells #[.slice none 0 0] 22 (0, 0))) (star (pt D (.deferred (some []))) (star (star (pt b1 (.cells #[.pointer (some ⟨p, 0, none⟩)] 24 (0, 0))) (star (pt b2 (.cells #[kS t] 9 (0, 0))) (pt mb (.cells #[.int .i64 most] 3 (0, 0))))) (star (IsR p l) R1)))) (h6.eq (by ac_rfl))
      obtain ⟨_, oa, oc, rfl, _⟩ := id h7.right.rowSl
      have hob := h7.cell 0 rfl
      have h8 := h7.right.swap
      have hrb0 := h8.cell 0 rfl
      have hrf := h8.free 0
      have h9 := h8.setCell 0 (.slice oa o.length oc)
      have hK := h9.right.right.blk
      clear h6 HFIN
      gi_wp2_with fail
      refine ⟨by simp, .inl ⟨_, _, rfl, run_takeDeferred hK, ?_⟩⟩
      have h10 := St.putObj (h9.eq (B := star (pt D (.deferred (some []))) (star (pt rb (.cells #[.slice oa o.length oc] 22 (0, 0))) (star (Row 3 1 (.slice oa o.length oc) o.length (o.map kI)) (star (star (pt b1 (.cells #[.pointer (some ⟨p, 0, none⟩)] 24 (0, 0))) (star (pt b2 (.cells #[kS t] 9 (0, 0))) (pt mb (.cells #[.int .i64 most] 3 (0, 0))))) (star (IsR p l) R1))))) (by show star (pt rb (.cells #[.slice oa o.length oc] _ _)) _ = _; ac_rfl)) (.deferred none)
      have hrd := h10.right.cell 0 rfl
      refine ⟨.slice oa o.length oc, by simp [results, Try.results12, go_sem, hrd], _, _, rfl, ?_⟩
      have h11 := h10.right.right
      rw [← HR1.out] at h11
      exact (h11.eq (B := star (star (star (pt b1 (.cells #[.pointer (some ⟨p, 0, none⟩)] 24 (0, 0))) (star (pt b2 (.cells #[kS t] 9 (0, 0))) (pt mb (.cells #[.int .i64 most] 3 (0, 0))))) (star (pt c1 (.cells #[.pointer (some ⟨p, 0, none⟩)] 24 (0, 0))) (pt c2 (.cells #[kS t] 9 (0, 0))))) (star (Row 3 1 (.slice oa o.length oc) o.length (o.map kI)) (star (IsR p l) R))) (by ac_rfl)).right
    · unfold OF at h5
      rw [if_neg hlm] at h5
      exact (St.no h5).elim
  case stop =>
    rintro D c w5 h5
    unfold OG at h5
    split at h5
    · have HFIN : Hid (St W w5 (star (pt D (.deferred (some []))) (OI ob mb rb b1 b2 p t most l R1 o))) := Lib.hid (HO.out ▸ h5)
      clear h5 h7
      have h6 : St W w5 (star (pt D (.deferred (some []))) (OI ob mb rb b1 b2 p t most l R1 o)) := HFIN.out
      unfold OI at h6
      obtain ⟨ov, h7⟩ := St.held (R := star (pt rb (.cells #[.slice none 0 0] 22 (0, 0))) (star (pt D (.deferred (some []))) (star (star (pt b1 (.cells #[.pointer (some ⟨p, 0, none⟩)] 24 (0, 0))) (star (pt b2 (.cells #[kS t] 9 (0, 0))) (pt mb (.cells #[.int .i64 most] 3 (0, 0))))) (star (IsR p l) R1)))) (h6.eq (by ac_rfl))
      obtain ⟨_, oa, oc, rfl, _⟩ := id h7.right.rowSl
      have hob := h7.cell 0 rfl
      have h8 := h7.right.swap
      have hrb0 := h8.cell 0 rfl
      have hrf := h8.free 0
      have h9 := h8.setCell 0 (.slice oa o.length oc)
      have hK := h9.right.right.blk
      clear h6 HFIN
      gi_wp2_with fail
      refine ⟨by simp, .inl ⟨_, _, rfl, run_takeDeferred hK, ?_⟩⟩
      have h10 := St.putObj (h9.eq (B := star (pt D (.deferred (some []))) (star (pt rb (.cells #[.slice oa o.length oc] 22 (0, 0))) (star (Row 3 1 (.slice oa o.length oc) o.length (o.map kI)) (star (star (pt b1 (.cells #[.pointer (some ⟨p, 0, none⟩)] 24 (0, 0))) (star (pt b2 (.cells #[kS t] 9 (0, 0))) (pt mb (.cells #[.int .i64 most] 3 (0, 0))))) (star (IsR p l) R1))))) (by show star (pt rb (.cells #[.slice oa o.length oc] _ _)) _ = _; ac_rfl)) (.deferred none)
      have hrd := h10.right.cell 0 rfl
      refine ⟨.slice oa o.length oc, by simp [results, Try.results12, go_sem, hrd], _, _, rfl, ?_⟩
      have h11 := h10.right.right
      rw [← HR1.out] at h11
      exact (h11.eq (B := star (star (star (pt b1 (.cells #[.pointer (some ⟨p, 0, none⟩)] 24 (0, 0))) (star (pt b2 (.cells #[kS t] 9 (0, 0))) (pt mb (.cells #[.int .i64 most] 3 (0, 0))))) (star (pt c1 (.cells #[.pointer (some ⟨p, 0, none⟩)] 24 (0, 0))) (pt c2 (.cells #[kS t] 9 (0, 0))))) (star (Row 3 1 (.slice oa o.length oc) o.length (o.map kI)) (star (IsR p l) R))) (by ac_rfl)).right
    · exact (St.no h5).elim
end Go.Proofs.Ythaekkmnglhinaa.TpO
