import Derived.Test.YtdobgebdlbckoaaGreatDoorBkC
namespace Go.Proofs.YtdobgebdlbckoaaGreatDoor.BkD
open Go Go.RowKit Go.Proofs Go.Proofs.YtdobgebdlbckoaaGreatDoor.Sep Go.Proofs.YtdobgebdlbckoaaGreatDoor.Reg Go.Proofs.YtdobgebdlbckoaaGreatDoor.Frame Go.Proofs.YtdobgebdlbckoaaGreatDoor.Mp Go.Proofs.YtdobgebdlbckoaaGreatDoor.WdP Go.Proofs.YtdobgebdlbckoaaGreatDoor.WdN Go.Proofs.YtdobgebdlbckoaaGreatDoor.TpP Go.Proofs.YtdobgebdlbckoaaGreatDoor.TpA Go.Proofs.YtdobgebdlbckoaaGreatDoor.TpI Go.Proofs.YtdobgebdlbckoaaGreatDoor.TpK Go.Proofs.YtdobgebdlbckoaaGreatDoor.TpL Go.Proofs.YtdobgebdlbckoaaGreatDoor.TpM Go.Proofs.YtdobgebdlbckoaaGreatDoor.TpNd Go.Proofs.YtdobgebdlbckoaaGreatDoor.BkP Go.Proofs.YtdobgebdlbckoaaGreatDoor.BkA Go.Proofs.YtdobgebdlbckoaaGreatDoor.BkB Go.Proofs.YtdobgebdlbckoaaGreatDoor.BkC

theorem cutB_le : ∀ s : List UInt8, (cutB s).1.length ≤ s.length ∧ (cutB s).2.1.length ≤ s.length
  | [] => by simp [cutB]
  | c :: r => by
    have ih := cutB_le r
    unfold cutB
    split
    · simp
    · simp only [List.length_cons]
      omega
theorem parse_le {s : List UInt8} {c : Cmd} (h : parseW s = some c) : c.2.1.length ≤ s.length ∧ c.2.2.length ≤ s.length ∧ topic c.2.1 = true ∧ (c.1 = 1 ∨ c.1 = 2 ∨ c.1 = 3) := by
  have h1 := cutB_le s
  have h2 := cutB_le (cutB s).2.1
  unfold parseW at h
  simp only at h
  split at h
  · split at h
    · rename_i ht; cases h; exact ⟨h1.2, by simp, ht, .inl rfl⟩
    · cases h
  · split at h
    · split at h
      · rename_i ht; cases h; exact ⟨h1.2, by simp, ht, .inr (.inl rfl)⟩
      · cases h
    · split at h
      · split at h
        · rename_i ht
          cases h
          simp only [Bool.and_eq_true] at ht
          exact ⟨by simp only; omega, by simp only; omega, ht.2, .inr (.inr rfl)⟩
        · cases h
      · cases h
set_option maxRecDepth 100000 in
set_option maxHeartbeats 16000000 in
theorem Do_any {W w : World} {R : Asn} (p : Nat) (b : BS) (h : St W w (star (IsB p b) R)) (hl : b.2.length ≤ 1000000) (hn : ∀ e ∈ b.1, e.2 ≤ 1000000) (hG : Gl W) (id op : Int) (s : Tx) (hs : s.length ≤ 1000000) :
    Calls Tryz.prog 13 #[.pointer (some ⟨p, 0, none⟩), .int .i64 id, .int .i64 op, kS s] w (DPst W p (doB b id op s) R) := by
  have HMe := Lib.hid (member_any p b h id)
  obtain ⟨r, hr⟩ : ∃ r, doB b id op s = r := ⟨_, rfl⟩
  rw [hr]
  have HR := Lib.hid hr
  have HG := Lib.hid hG
  have hnn : (getM id b.1).getD 0 ≤ 1000000 := by
    cases e : getM id b.1 with
    | none => simp
    | some n => exact hn _ (getM_mem e)
  clear hr hG hn
  cases hm : isM b id with
  | false =>
    rw [hm] at HMe
    have HE : Hid (r = ([], b)) := Lib.hid (by rw [← HR.out]; unfold doB; rw [hm]; rfl)
    clear hm
    go_enter Tryz.func13, Tryz.ntmps13
    go_wp2_with fail
    refine HMe.out.mono ?_
    rintro e w1 ⟨rfl, rfl⟩
    go_wp2
    go_ret
    exact DPst.nil HE.out rfl h
  | true =>
    rw [hm] at HMe
    have HE0 : Hid (r = match parseW s with
      | none => ([(id, 1, errT 1)], b)
      | some c => if c.1 = 1 then subB b id c.2.1 else if c.1 = 2 then unsubB b id c.2.1 else pubB b id op c.2.1 c.2.2) := Lib.hid (by rw [← HR.out]; unfold doB; rw [hm]; rfl)
    clear hm
    cases hp : parseW s with
    | none =>
      have HE : Hid (r = ([(id, 1, errT 1)], b)) := Lib.hid (by rw [HE0.out, hp])
      have HP := Lib.hid (WdC.Parse_any s (.tuple #[.agg #[.int .i64 0, .string ⟨#[]⟩, .string ⟨#[]⟩], .bool false]) (by rw [hp]; rfl) w (HG.out.st h) hs)
      clear hp HE0
      go_enter Tryz.func13, Tryz.ntmps13
      go_wp2_with fail
      refine HMe.out.mono ?_
      rintro e w1 ⟨rfl, rfl⟩
      go_wp2_with fail
      refine HP.out.mono ?_
      rintro e w2 hq
      have h2 := h.makes hq
      obtain ⟨rfl, -⟩ := hq
      have h3 := h2.alloc (.cells #[.int .i64 0, .string ⟨#[]⟩, .string ⟨#[]⟩] 60 (0, 0))
      have HF := Lib.hid (fault_any h3 HG.out id 1 1 rfl (by omega))
      clear h h2
      go_wp2_with fail
      refine HF.out.mono ?_
      rintro e w4 ⟨fa, fc, rfl, -, h4⟩
      clear h3
      go_wp2
      go_ret
      exact DPst.mk HE.out rfl rfl (h4.swap.right)
    | some c =>
      obtain ⟨hl1, hl2, htop, hk⟩ := parse_le hp
      obtain ⟨k, t, d⟩ := c
      simp only at hl1 hl2 htop hk
      have HE1 : Hid (r = if k = 1 then subB b id t else if k = 2 then unsubB b id t else pubB b id op t d) := Lib.hid (by rw [HE0.out, hp])
      have HP := Lib.hid (WdC.Parse_any s (.tuple #[.agg #[.int .i64 (k : Nat), kS t, kS d], .bool true]) (by rw [hp]; rfl) w (HG.out.st h) hs)
      have HH := Lib.hid h
      clear hp HE0 htop h
      go_enter Tryz.func13, Tryz.ntmps13
      go_wp2_with fail
      refine HMe.out.mono ?_
      rintro e w1 ⟨rfl, rfl⟩
      go_wp2_with fail
      refine HP.out.mono ?_
      rintro e w2 hq
      have h2 := HH.out.makes hq
      obtain ⟨rfl, -⟩ := hq
      have h3 := h2.alloc (.cells #[.int .i64 (k : Nat), kS t, kS d] 60 (0, 0))
      clear h2 HH
      rcases hk with rfl | rfl | rfl
      · have HE : Hid (r = subB b id t) := Lib.hid (by rw [HE1.out]; rfl)
        have HS := Lib.hid (sub_any p b h3.swap hl HG.out id t)
        clear HE1
        go_wp2_with fail
        refine HS.out.mono ?_
        rintro e w4 ⟨fa, fn, fc, rfl, hfn, h4⟩
        have HFN := Lib.hid hfn
        clear h3 hfn
        go_wp2
        go_ret
        rw [HE.out]
        exact ⟨fa, fn, fc, rfl, HFN.out, (h4.eq (B := star (pt w2.heap.size (.cells #[.int .i64 (1 : Nat), kS t, kS d] 60 (0, 0))) (star (Row 40 3 (.slice fa fn fc) fn (outsV (subB b id t).1)) (star (IsB p (subB b id t).2) R))) (by ac_rfl)).right⟩
      · have HE : Hid (r = unsubB b id t) := Lib.hid (by rw [HE1.out]; rfl)
        obtain ⟨bm, rp, h4⟩ := St.isB h3.swap
        have h5 := h4.drew.eq (B := star (IsR rp b.2) (star (pt p (.cells #[.map (some bm), .pointer (some ⟨rp, 0, none⟩)] 72 (0, 0))) (star (Mp kI bm (pubV b.1)) (star (pt w2.heap.size (.cells #[.int .i64 (2 : Nat), kS t, kS d] 60 (0, 0))) R)))) (by ac_rfl)
        have HD := Lib.hid (Drop_any rp b.2 hl t id h5)
        have c1 := h5.right.cell 1 (v := .pointer (some ⟨rp, 0, none⟩)) rfl
        have cc := h5.right.right.right.cell 1 (v := kS t) rfl
        clear HE1 h3 h4
        go_wp2_with fail
        refine wp_region_canon [0, 1, 2, 3, 4, 5, 6, 7, 8] (by kernel_rfl) (by kernel_rfl) ?_
        simp only [pickOps, nthOp]
        generalize (w2.alloc (.cells #[.int .i64 (2 : Nat), kS t, kS d] 60 (0, 0))).drew = w3 at *
        go_wp2_with fail
        refine HD.out.mono ?_
        rintro e w4 ⟨rfl, h6⟩
        clear h5 c1 cc
        by_cases hin : (t, id) ∈ b.2
        · have HE2 : Hid (r = ([], (b.1, dropP b.2 t id))) := Lib.hid (by rw [HE.out]; unfold unsubB; rw [if_pos hin])
          have hd : decide ((t, id) ∈ b.2) = true := decide_eq_true hin
          rw [hd]
          clear hin hd
          go_wp2_with fail
          simp only [Only]
          go_wp2
          go_ret
          exact DPst.nil HE2.out rfl (St.toB (b := (b.1, dropP b.2 t id)) (bm := bm) (rp := rp) ((h6.eq (B := star (pt w2.heap.size (.cells #[.int .i64 (2 : Nat), kS t, kS d] 60 (0, 0))) (star (pt p (.cells #[.map (some bm), .pointer (some ⟨rp, 0, none⟩)] 72 (0, 0))) (star (Mp kI bm (pubV b.1)) (star (IsR rp (dropP b.2 t id)) R)))) (by ac_rfl)).right))
        · have HE2 : Hid (r = ([(id, 1, errT 3)], b)) := Lib.hid (by rw [HE.out]; unfold unsubB; rw [if_neg hin])
          have hd : decide ((t, id) ∈ b.2) = false := decide_eq_false hin
          have hdr : dropP b.2 t id = b.2 := by
            unfold dropP
            exact List.filter_eq_self.2 fun x hx => by
              simp only [ne_eq, decide_not, Bool.not_eq_true', decide_eq_false_iff_not]
              rintro rfl
              exact hin hx
          rw [hd]
          rw [hdr] at h6
          have h7 := St.toB (b := b) (bm := bm) (rp := rp) ((h6.eq (B := star (pt w2.heap.size (.cells #[.int .i64 (2 : Nat), kS t, kS d] 60 (0, 0))) (star (pt p (.cells #[.map (some bm), .pointer (some ⟨rp, 0, none⟩)] 72 (0, 0))) (star (Mp kI bm (pubV b.1)) (star (IsR rp b.2) R)))) (by ac_rfl)).right)
          have HF := Lib.hid (fault_any h7 HG.out id 3 3 rfl (by omega))
          clear hin hd hdr h6 h7
          go_wp2_with fail
          simp only [Only]
          go_wp2_with fail
          refine HF.out.mono ?_
          rintro e w5 ⟨fa, fc, rfl, -, h8⟩
          go_wp2
          go_ret
          exact DPst.mk HE2.out rfl rfl h8
      · have HE : Hid (r = pubB b id op t d) := Lib.hid (by rw [HE1.out]; rfl)
        have HS := Lib.hid (pub_any p b h3.swap hl HG.out id op t d (by omega) (by omega) hnn 3)
        have d0 := h3.cell 0 (v := .int .i64 3) rfl
        have d1 := h3.cell 1 (v := kS t) rfl
        have d2 := h3.cell 2 (v := kS d) rfl
        clear HE1
        go_wp2_with fail
        refine HS.out.mono ?_
        rintro e w4 ⟨fa, fn, fc, rfl, hfn, h4⟩
        have HFN := Lib.hid hfn
        clear h3 hfn d0 d1 d2
        go_wp2
        go_ret
        rw [HE.out]
        exact ⟨fa, fn, fc, rfl, HFN.out, (h4.eq (B := star (pt w2.heap.size (.cells #[.int .i64 (3 : Nat), kS t, kS d] 60 (0, 0))) (star (Row 40 3 (.slice fa fn fc) fn (outsV (pubB b id op t d).1)) (star (IsB p (pubB b id op t d).2) R))) (by ac_rfl)).right⟩
/-- What a member hears, as new memory. -/
def HPst (W : World) (p : Nat) (b : BS) (id : Int) (R : Asn) (e : Ending) (w' : World) : Prop := ∃ a n c, e = .returned (.slice a n c) ∧ (byP b.2 id).length = n ∧ St W w' (star (Row 9 1 (.slice a n c) n ((byP b.2 id).map kS)) (star (IsB p b) R))
set_option maxRecDepth 100000 in
theorem Hears_any {W w : World} {R : Asn} (p : Nat) (b : BS) (h : St W w (star (IsB p b) R)) (hl : b.2.length ≤ 1000000) (id : Int) : Calls Tryz.prog 15 #[.pointer (some ⟨p, 0, none⟩), .int .i64 id] w (HPst W p b id R) := by
  obtain ⟨bm, rp, h1⟩ := St.isB h
  have HN := Lib.hid (BkA.none_any p bm w (h1.cell 0 rfl))
  have c1 := h1.cell 1 (v := .pointer (some ⟨rp, 0, none⟩)) rfl
  have HB := Lib.hid (By_any rp b.2 hl id (h1.eq (B := star (IsR rp b.2) (star (pt p (.cells #[.map (some bm), .pointer (some ⟨rp, 0, none⟩)] 72 (0, 0))) (star (Mp kI bm (pubV b.1)) R))) (by ac_rfl)))
  clear h h1
  go_enter Tryz.func15, Tryz.ntmps15
  go_wp2_with fail
  refine HN.out.mono ?_
  rintro e w1 ⟨rfl, rfl⟩
  go_wp2_with fail
  refine HB.out.mono ?_
  rintro e w2 ⟨a, c, rfl, h2⟩
  clear c1
  go_wp2
  go_ret
  exact ⟨a, _, c, rfl, rfl, ((St.toB (b := b) (bm := bm) (rp := rp) (R := star (Row 9 1 (.slice a (byP b.2 id).length c) (byP b.2 id).length ((byP b.2 id).map kS)) R) (h2.eq (by ac_rfl))).swap)⟩
set_option maxRecDepth 100000 in
theorem Published_any {W w : World} {R : Asn} (p : Nat) (b : BS) (h : St W w (star (IsB p b) R)) (id : Int) : Calls Tryz.prog 17 #[.pointer (some ⟨p, 0, none⟩), .int .i64 id] w fun e w' => e = .returned (.int .i64 ((getM id b.1).getD 0 : Nat)) ∧ w = w' := by
  obtain ⟨bm, rp, h1⟩ := St.isB h
  have HN := Lib.hid (BkA.none_any p bm w (h1.cell 0 rfl))
  have c0 := h1.cell 0 (v := .map (some bm)) rfl
  have hl := look1 h1.right id
  clear h h1
  generalize (getM id b.1).getD 0 = n at *
  go_enter Tryz.func17, Tryz.ntmps17
  go_wp2_with fail
  refine HN.out.mono ?_
  rintro e w1 ⟨rfl, rfl⟩
  go_wp2
  go_ret
  exact ⟨rfl, rfl⟩
end Go.Proofs.YtdobgebdlbckoaaGreatDoor.BkD
