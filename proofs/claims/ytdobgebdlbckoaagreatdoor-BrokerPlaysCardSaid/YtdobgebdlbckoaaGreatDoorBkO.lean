import Derived.Test.YtdobgebdlbckoaaGreatDoorBkW
namespace Go.Proofs.YtdobgebdlbckoaaGreatDoor.BkO
open Go Go.RowKit Go.Proofs Go.Proofs.YtdobgebdlbckoaaGreatDoor.Sep Go.Proofs.YtdobgebdlbckoaaGreatDoor.Reg Go.Proofs.YtdobgebdlbckoaaGreatDoor.Frame Go.Proofs.YtdobgebdlbckoaaGreatDoor.Rng Go.Proofs.YtdobgebdlbckoaaGreatDoor.RngA Go.Proofs.YtdobgebdlbckoaaGreatDoor.RngB Go.Proofs.YtdobgebdlbckoaaGreatDoor.Mp Go.Proofs.YtdobgebdlbckoaaGreatDoor.Ms Go.Proofs.YtdobgebdlbckoaaGreatDoor.WdP Go.Proofs.YtdobgebdlbckoaaGreatDoor.WdN Go.Proofs.YtdobgebdlbckoaaGreatDoor.TpP Go.Proofs.YtdobgebdlbckoaaGreatDoor.TpA Go.Proofs.YtdobgebdlbckoaaGreatDoor.TpB Go.Proofs.YtdobgebdlbckoaaGreatDoor.TpI Go.Proofs.YtdobgebdlbckoaaGreatDoor.TpJ Go.Proofs.YtdobgebdlbckoaaGreatDoor.TpK Go.Proofs.YtdobgebdlbckoaaGreatDoor.BkP Go.Proofs.YtdobgebdlbckoaaGreatDoor.BkA Go.Proofs.YtdobgebdlbckoaaGreatDoor.BkB Go.Proofs.YtdobgebdlbckoaaGreatDoor.BkC Go.Proofs.YtdobgebdlbckoaaGreatDoor.BkD
/-- What lies while those who hear a topic are gathered. -/
def OF (ob b1 b2 rp : Nat) (t : Tx) (l : List Pr) (R : Asn) (pre : List Int) : Asn :=
  star (pt b1 (.cells #[.pointer (some ⟨rp, 0, none⟩)] 69 (0, 0))) (star (pt b2 (.cells #[kS t] 9 (0, 0))) (star (Held ob 33 3 pre.length (pre.map kI)) (star (IsR rp l) R)))
def OfPst (W : World) (p : Nat) (b : BS) (t : Tx) (R : Asn) (e : Ending) (w' : World) : Prop :=
  ∃ a n c, e = .returned (.slice a n c) ∧ (ofP b.2 t).length = n ∧ St W w' (star (Row 3 1 (.slice a n c) n ((ofP b.2 t).map kI)) (star (IsB p b) R))
attribute [local go_sem] Oper.semAt_some
set_option maxRecDepth 100000 in
set_option maxHeartbeats 16000000 in
theorem Of_any {W w : World} {R : Asn} (p : Nat) (b : BS) (h : St W w (star (IsB p b) R)) (hl : b.2.length ≤ 1000000) (t : Tx) :
    Calls Tryz.prog 25 #[.pointer (some ⟨p, 0, none⟩), kS t] w (OfPst W p b t R) := by
  obtain ⟨bm, rp, h1⟩ := St.isB h
  have HN := Lib.hid (BkA.none_any p bm w (h1.cell 0 rfl))
  have HL := Lib.hid hl
  clear h hl
  refine (callsIn_wide (n := 3)).1 (callsIn_of_wp_marks Tryz.func25 rfl trivial ?_ rfl)
  simp only [Tryz.ntmps25, List.size_toArray, List.length_cons, List.length_nil, Nat.reduceAdd, Nat.reduceSub, Array.replicate_succ, Array.replicate_zero, List.push_toArray, List.append_toArray, List.nil_append, List.cons_append]
  gi_wp2_with fail
  refine ⟨trivial, callsIn_wide.2 (HN.out.mono ?_)⟩
  rintro e w1 ⟨rfl, rfl⟩
  have h2 := h1.alloc (.cells #[.slice none 0 0] 33)
  obtain ⟨ob, hob⟩ : ∃ ob, w.heap.size = ob := ⟨_, rfl⟩
  have hp1 := h2.right.cell 1 (v := .pointer (some ⟨rp, 0, none⟩)) rfl
  have HO := Lib.hid (TpJ.Of_any rp t (h2.eq (B := star (IsR rp b.2) (star (pt w.heap.size (.cells #[.slice none 0 0] 33 (0, 0))) (star (pt p (.cells #[.map (some bm), .pointer (some ⟨rp, 0, none⟩)] 72 (0, 0))) (star (Mp kI bm (pubV b.1)) R)))) (by ac_rfl)))
  rw [hob] at HO h2
  clear h1 HN
  gi_wp2_with fail
  refine ⟨trivial, callsIn_wide.2 (HO.out.mono ?_)⟩
  rintro e w2 ⟨b1, b2, rfl, h3⟩
  clear h2 HO hp1
  have h4 : St W w2 (OF ob b1 b2 rp t b.2 (star (pt p (.cells #[.map (some bm), .pointer (some ⟨rp, 0, none⟩)] 72 (0, 0))) (star (Mp kI bm (pubV b.1)) R)) []) := by
    have h5 := h3.eq (B := star (pt ob (.cells #[.slice none 0 0] 33 (0, 0))) (star (pt b1 (.cells #[.pointer (some ⟨rp, 0, none⟩)] 69 (0, 0))) (star (pt b2 (.cells #[kS t] 9 (0, 0))) (star (IsR rp b.2) (star (pt p (.cells #[.map (some bm), .pointer (some ⟨rp, 0, none⟩)] 72 (0, 0))) (star (Mp kI bm (pubV b.1)) R)))))) (by ac_rfl)
    have h6 := St.toHeld (h5.nilRow (e := 3) (size := 1)).swap
    unfold OF
    exact h6.eq (by show star (Held _ _ _ 0 []) _ = _; ac_rfl)
  clear h3
  gi_wp2_with fail
  have hol : (ofP b.2 t).length ≤ 1000000 := Nat.le_trans (ofP_le b.2 t) HL.out
  refine range_of2 (m := 1) (fun i x t => ((t.setIfInBounds 16 (.int .i64 i)).setIfInBounds 17 (.int .i64 x)).setIfInBounds 7 (.int .i64 x)) rp b1 b2 t (ofP b.2 t) hol (OF ob b1 b2 rp t b.2 (star (pt p (.cells #[.map (some bm), .pointer (some ⟨rp, 0, none⟩)] 72 (0, 0))) (star (Mp kI bm (pubV b.1)) R))) (fun _ => No) rfl rfl h4 ?cells ?assign ?round ?done ?stop
  case cells =>
    intro w5 h5
    unfold OF at h5
    exact ⟨h5.cell 0 rfl, h5.right.cell 0 rfl, reads_of h5.right.right.right t⟩
  case assign =>
    rintro i x l0 w5 K hK
    gi_wp2_with fail
    exact hK
  case round =>
    rintro pre k post hx0 l0 busy C w5 h5
    have hx := Lib.hid hx0
    have hpl : pre.length < 1000000 := by rw [hx0] at hol; simp at hol; omega
    clear hx0 hol h4
    simp only [List.setIfInBounds_toArray, List.set_cons_succ, List.set_cons_zero]
    unfold OF at h5
    obtain ⟨ov, h6⟩ := St.held (R := star (pt l0 (.loop busy)) (star C (star (pt b1 (.cells #[.pointer (some ⟨rp, 0, none⟩)] 69 (0, 0))) (star (pt b2 (.cells #[kS t] 9 (0, 0))) (star (IsR rp b.2) (star (pt p (.cells #[.map (some bm), .pointer (some ⟨rp, 0, none⟩)] 72 (0, 0))) (star (Mp kI bm (pubV b.1)) R))))))) (h5.eq (by ac_rfl))
    obtain ⟨_, va, vk, rfl, _⟩ := _root_.id h6.right.rowSl
    have hob0 := h6.cell 0 rfl
    have h9 := h6.alloc (.cells #[.int .i64 k] 3)
    have h10 := (h9.right).eq (B := star (Row 3 1 (.slice va pre.length vk) pre.length (pre.map kI)) (star (pt ob (.cells #[.slice va pre.length vk] 33 (0, 0))) (star (pt l0 (.loop busy)) (star C (star (pt b1 (.cells #[.pointer (some ⟨rp, 0, none⟩)] 69 (0, 0))) (star (pt b2 (.cells #[kS t] 9 (0, 0))) (star (IsR rp b.2) (star (pt p (.cells #[.map (some bm), .pointer (some ⟨rp, 0, none⟩)] 72 (0, 0))) (star (Mp kI bm (pubV b.1)) R))))))))) (by ac_rfl)
    have hone : Sl (w5.alloc (.cells #[.int .i64 k] 3)) 1 (.slice (some ⟨w5.heap.size, 0, none⟩) 1 1) 1 [.int .i64 k] := (St.mkRow (size := 1) (n := 1) (cap := 1) (xs := [.int .i64 k]) h9 (Nat.le_refl _) (by unfold maxLen; omega) rfl rfl).rowSl
    obtain ⟨i0, hi0, hz0, hz1, hz2⟩ := info_parts infoI
    have U := Tryz.underlying33
    clear h5 h6 h9
    gi_wp2_with (gi_at_builtin; refine wpListIn_append_Sl rfl (.tmp 18) (.tmp 20) 33 rfl 3 i0 (.int .i64 0) 1 8 U hi0 hz0 hz1 hz2 rfl (.slice va pre.length vk) _ _ rfl h10 _ 1 [.int .i64 k] rfl hone (oneI [k]) (by unfold maxLen; omega) (by omega) ?_; intro v9 w9 hS9 hv9; obtain ⟨_, a9, c9, rfl, _⟩ := _root_.id hS9.rowSl; have hc9 := hS9.swap.cell 0 rfl; have hf9 := hS9.swap.free 0)
    have h11 := hS9.swap.setCell 0 (.slice a9 (pre.length + 1) c9)
    have el : (pre ++ [k]).length = pre.length + 1 := by simp
    have ev : (pre ++ [k]).map kI = pre.map kI ++ [.int .i64 k] := by simp
    show St W _ (star (pt l0 (.loop busy)) (star C (OF ob b1 b2 rp t b.2 _ (pre ++ [k]))))
    exact (St.toHeld h11).eq (by unfold OF; rw [el, ev]; ac_rfl)
  case done =>
    rintro D w5 h5
    have HFIN := Lib.hid h5
    clear h5 h4
    have h6 := HFIN.out
    unfold OF at h6
    obtain ⟨ov, h7⟩ := St.held (R := star (pt D (.deferred (some []))) (star (star (pt b1 (.cells #[.pointer (some ⟨rp, 0, none⟩)] 69 (0, 0))) (pt b2 (.cells #[kS t] 9 (0, 0)))) (star (pt p (.cells #[.map (some bm), .pointer (some ⟨rp, 0, none⟩)] 72 (0, 0))) (star (Mp kI bm (pubV b.1)) (star (IsR rp b.2) R))))) (h6.eq (by ac_rfl))
    obtain ⟨_, oa, oc, rfl, _⟩ := _root_.id h7.right.rowSl
    have hob0 := h7.cell 0 rfl
    have h8 := h7.right.swap
    have hK := h8.blk
    clear h6 HFIN
    gi_wp2_with fail
    refine ⟨by simp, .inl ⟨_, _, rfl, run_takeDeferred hK, ?_⟩⟩
    have h10 := St.putObj h8 (.deferred none)
    refine ⟨.slice oa (ofP b.2 t).length oc, by simp [results, Tryz.results25, go_sem], ?_⟩
    have h11 := h10.right.swap.right
    exact ⟨_, _, _, rfl, rfl, ((St.toB (b := b) (bm := bm) (rp := rp) (R := star (Row 3 1 (.slice oa (ofP b.2 t).length oc) (ofP b.2 t).length ((ofP b.2 t).map kI)) R) (h11.eq (by ac_rfl))).swap)⟩
  case stop =>
    rintro D c w5 h5
    exact (St.no h5).elim
end Go.Proofs.YtdobgebdlbckoaaGreatDoor.BkO
