import Derived.Test.YtdobgebdlbckoaaGreatDoorBkA
namespace Go.Proofs.YtdobgebdlbckoaaGreatDoor.BkB
open Go Go.RowKit Go.Proofs Go.Proofs.YtdobgebdlbckoaaGreatDoor.Sep Go.Proofs.YtdobgebdlbckoaaGreatDoor.Reg Go.Proofs.YtdobgebdlbckoaaGreatDoor.Frame Go.Proofs.YtdobgebdlbckoaaGreatDoor.Mp Go.Proofs.YtdobgebdlbckoaaGreatDoor.WdP Go.Proofs.YtdobgebdlbckoaaGreatDoor.WdN Go.Proofs.YtdobgebdlbckoaaGreatDoor.TpP Go.Proofs.YtdobgebdlbckoaaGreatDoor.TpA Go.Proofs.YtdobgebdlbckoaaGreatDoor.TpI Go.Proofs.YtdobgebdlbckoaaGreatDoor.TpK Go.Proofs.YtdobgebdlbckoaaGreatDoor.TpL Go.Proofs.YtdobgebdlbckoaaGreatDoor.TpM Go.Proofs.YtdobgebdlbckoaaGreatDoor.TpNd Go.Proofs.YtdobgebdlbckoaaGreatDoor.BkP Go.Proofs.YtdobgebdlbckoaaGreatDoor.BkA

/-! ### What is to be told, as cells -/
def oE (x : Ot) : List Value := [.int .i64 x.1, .int .i64 x.2.1, .string ⟨x.2.2.toArray⟩]
def outsV (l : List Ot) : List Value := l.flatMap oE
theorem outsV_append (l m : List Ot) : outsV (l ++ m) = outsV l ++ outsV m := by simp [outsV]
theorem outsV_length (l : List Ot) : (outsV l).length = l.length * 3 := by
  induction l with
  | nil => rfl
  | cons x l ih => simp only [outsV, List.flatMap_cons, List.length_append, List.length_cons] at ih ⊢; rw [ih]; simp [oE]; omega
theorem outsV_one (l : List Ot) : ∀ u ∈ outsV l, u.oneCell' = true := by
  intro u hu
  obtain ⟨x, _, hx⟩ := List.mem_flatMap.1 hu
  simp only [oE, List.mem_cons, List.not_mem_nil, or_false] at hx
  rcases hx with rfl | rfl | rfl <;> rfl
theorem elO {w : World} {a : Option Addr} {n c : Nat} {l : List Ot} (h : Sl w 3 (.slice a n c) n (outsV l)) {i : Nat} {x : Ot} (hx : l[i]? = some x) :
    ∃ ab ao, a = some ⟨ab, ao, none⟩ ∧ w.cell? ⟨ab, ao + i * 3, none⟩ = some (.int .i64 x.1) ∧ w.cell? ⟨ab, ao + i * 3 + 1, none⟩ = some (.int .i64 x.2.1) ∧ w.cell? ⟨ab, ao + i * 3 + 2, none⟩ = some (.string ⟨x.2.2.toArray⟩) := by
  have hg := flatMap_get (E := oE) (size := 3) (fun _ => rfl) l i x hx
  have hlen : 0 < (outsV l).length := by
    have := (List.getElem?_eq_some_iff.1 (show (outsV l)[i * 3 + 0]? = some (.int .i64 x.1) from hg 0 (by omega))).1
    omega
  obtain ⟨ab, ao, rfl, hc⟩ := sl_addr h hlen
  exact ⟨ab, ao, rfl, hc (i * 3 + 0) _ (hg 0 (by omega)), hc (i * 3 + 1) _ (hg 1 (by omega)), hc (i * 3 + 2) _ (hg 2 (by omega))⟩
/-- What Do leaves. -/
def DPst (W : World) (p : Nat) (r : List Ot × BS) (R : Asn) (e : Ending) (w' : World) : Prop :=
  ∃ a n c, e = .returned (.slice a n c) ∧ r.1.length = n ∧ St W w' (star (Row 40 3 (.slice a n c) n (outsV r.1)) (star (IsB p r.2) R))
theorem DPst.nil {W w' : World} {p : Nat} {r : List Ot × BS} {R : Asn} {e : Ending} {b : BS} (h : r = ([], b)) (he : e = .returned (.slice none 0 0)) (hS : St W w' (star (IsB p b) R)) : DPst W p r R e w' := by
  subst h; exact ⟨none, 0, 0, he, rfl, hS.nilRow⟩
theorem DPst.mk {W w' : World} {p : Nat} {r : List Ot × BS} {R : Asn} {e : Ending} {b : BS} {o : List Ot} {a : Option Addr} {n c : Nat} (h : r = (o, b)) (hn : o.length = n) (he : e = .returned (.slice a n c)) (hS : St W w' (star (Row 40 3 (.slice a n c) n (outsV o)) (star (IsB p b) R))) : DPst W p r R e w' := by
  subst h; exact ⟨a, n, c, he, hn, hS⟩
theorem err_some (n : Nat) (hn : n ≤ 3) : WdD.strV (faultW (n : Int)) = .string ⟨(errT n).toArray⟩ := by
  have : may (n : Int) = true := by unfold may; simp; omega
  unfold errT faultW
  rw [if_pos this]
  rfl
theorem one_row {W w : World} {R : Asn} (h : St W w R) (x : Ot) : St W (w.alloc (.cells #[.int .i64 x.1, .int .i64 x.2.1, .string ⟨x.2.2.toArray⟩] 40 (0, 0))) (star (Row 40 3 (.slice (some ⟨w.heap.size, 0, none⟩) 1 1) 1 (outsV [x])) R) :=
  St.mkRow (h.alloc _) (Nat.le_refl _) (by unfold maxLen; omega) rfl rfl
def FaPst (W : World) (o : List Ot) (R : Asn) (e : Ending) (w' : World) : Prop := ∃ a c, e = .returned (.slice a 1 c) ∧ o.length = 1 ∧ St W w' (star (Row 40 3 (.slice a 1 c) 1 (outsV o)) R)
set_option maxRecDepth 100000 in
theorem fault_any {W w : World} {R : Asn} (h : St W w R) (hG : Gl W) (id : Int) (n : Nat) (m : Int) (hm : m = n) (hn : n ≤ 3) : Calls Tryz.prog 34 #[.int .i64 id, .int .i64 m] w (FaPst W [(id, 1, errT n)] R) := by
  subst hm
  have HF := Lib.hid (WdD.Fault_any (n : Int) _ (err_some n hn) w (hG.st h))
  go_enter Tryz.func34, Tryz.ntmps34
  go_wp2_with fail
  refine HF.out.mono ?_
  rintro e w2 hq
  have h2 := h.makes hq
  obtain ⟨rfl, -⟩ := hq
  have h3 := one_row h2 (id, 1, errT n)
  go_wp2
  go_ret
  exact ⟨_, _, rfl, rfl, h3⟩
set_option maxRecDepth 100000 in
set_option maxHeartbeats 8000000 in
theorem sub_any {W w : World} {R : Asn} (p : Nat) (b : BS) (h : St W w (star (IsB p b) R)) (hl : b.2.length ≤ 1000000) (hG : Gl W) (id : Int) (t : Tx) : Calls Tryz.prog 35 #[.pointer (some ⟨p, 0, none⟩), .int .i64 id, kS t] w (DPst W p (subB b id t) R) := by
  obtain ⟨bm, rp, h1⟩ := St.isB h
  have c1 := h1.cell 1 (v := .pointer (some ⟨rp, 0, none⟩)) rfl
  have h2 := h1.eq (B := star (IsR rp b.2) (star (pt p (.cells #[.map (some bm), .pointer (some ⟨rp, 0, none⟩)] 72 (0, 0))) (star (Mp kI bm (pubV b.1)) R))) (by ac_rfl)
  have HHe := Lib.hid (Hears_any rp b.2 hl t id h2)
  have HB : Hid (∀ w, St W w (star (IsR rp b.2) (star (pt p (.cells #[.map (some bm), .pointer (some ⟨rp, 0, none⟩)] 72 (0, 0))) (star (Mp kI bm (pubV b.1)) R))) → _) := Lib.hid fun w h => By_any rp b.2 hl id h
  have HA : Hid (∀ w R', St W w (star (IsR rp b.2) R') → _) := Lib.hid fun w R' h => Add_any rp b.2 hl t id h
  have HG := Lib.hid hG
  obtain ⟨r, hr⟩ : ∃ r, subB b id t = r := ⟨_, rfl⟩
  rw [hr]
  have HR := Lib.hid hr
  have HBL := byP_le b.2 id
  clear h h1 h2 hr hG
  by_cases hm : (t, id) ∈ b.2
  · have HE : Hid (r = ([], (b.1, addQ b.2 t id))) := Lib.hid (by rw [← HR.out]; unfold subB; rw [if_neg (fun h => h.1 hm)])
    have hd : decide ((t, id) ∈ b.2) = true := decide_eq_true hm
    rw [hd] at HHe
    clear hm hd
    go_enter Tryz.func35, Tryz.ntmps35
    go_wp2_with fail
    refine HHe.out.mono ?_
    rintro e w2 ⟨rfl, h2⟩
    have HA2 := Lib.hid (HA.out _ _ h2)
    have c1 := h2.right.cell 1 (v := .pointer (some ⟨rp, 0, none⟩)) rfl
    go_wp2_with fail
    refine HA2.out.mono ?_
    rintro e w3 ⟨he, h3⟩
    obtain ⟨rv, hrv⟩ : ∃ rv : Int, (if (t, id) ∈ b.2 then 5 else 0) = rv := ⟨_, rfl⟩
    rw [hrv] at he
    subst he
    clear hrv
    clear h2 c1
    go_wp2
    go_ret
    exact DPst.nil HE.out rfl (St.toB (b := (b.1, addQ b.2 t id)) (bm := bm) (rp := rp) (h3.eq (by show star (IsR rp (addP b.2 t id)) _ = star _ (star _ (star (IsR rp (addP b.2 t id)) _)); ac_rfl)))
  · have hd : decide ((t, id) ∈ b.2) = false := decide_eq_false hm
    rw [hd] at HHe
    by_cases h8 : 8 ≤ (byP b.2 id).length
    · have HE : Hid (r = ([(id, 1, errT 2)], b)) := Lib.hid (by rw [← HR.out]; unfold subB; rw [if_pos ⟨hm, h8⟩])
      have hd8 : decide (8 ≤ ((byP b.2 id).length : Int)) = true := decide_eq_true (by omega)
      clear hm hd h8
      go_enter Tryz.func35, Tryz.ntmps35
      go_wp2_with fail
      refine HHe.out.mono ?_
      rintro e w2 ⟨rfl, h2⟩
      have HB2 := Lib.hid (HB.out _ h2)
      have c1 := h2.right.cell 1 (v := .pointer (some ⟨rp, 0, none⟩)) rfl
      go_wp2_with fail
      refine HB2.out.mono ?_
      rintro e w3 ⟨ya, yc, rfl, h3⟩
      have HF := Lib.hid (fault_any h3.right HG.out id 2 2 rfl (by omega))
      clear h2 c1
      go_wp2_with fail
      refine HF.out.mono ?_
      rintro e w4 ⟨fa, fc, rfl, -, h4⟩
      clear h3
      go_wp2
      go_ret
      exact DPst.mk HE.out rfl rfl ((St.toB (b := b) (bm := bm) (rp := rp) (R := star (Row 40 3 (.slice fa 1 fc) 1 (outsV [(id, 1, errT 2)])) R) (h4.eq (by ac_rfl))).swap)
    · have HE : Hid (r = ([], (b.1, addQ b.2 t id))) := Lib.hid (by rw [← HR.out]; unfold subB; rw [if_neg (fun h => h8 h.2)])
      have hd8 : decide (8 ≤ ((byP b.2 id).length : Int)) = false := decide_eq_false (by omega)
      clear hm hd h8
      go_enter Tryz.func35, Tryz.ntmps35
      go_wp2_with fail
      refine HHe.out.mono ?_
      rintro e w2 ⟨rfl, h2⟩
      have HB2 := Lib.hid (HB.out _ h2)
      have c1 := h2.right.cell 1 (v := .pointer (some ⟨rp, 0, none⟩)) rfl
      go_wp2_with fail
      refine HB2.out.mono ?_
      rintro e w3 ⟨ya, yc, rfl, h3⟩
      have HA2 := Lib.hid (HA.out _ _ h3.right)
      have c1 := h3.right.right.cell 1 (v := .pointer (some ⟨rp, 0, none⟩)) rfl
      clear h2
      go_wp2_with fail
      refine HA2.out.mono ?_
      rintro e w4 ⟨he, h4⟩
      obtain ⟨rv, hrv⟩ : ∃ rv : Int, (if (t, id) ∈ b.2 then 5 else 0) = rv := ⟨_, rfl⟩
      rw [hrv] at he
      subst he
      clear hrv
      clear h3 c1
      go_wp2
      go_ret
      exact DPst.nil HE.out rfl (St.toB (b := (b.1, addQ b.2 t id)) (bm := bm) (rp := rp) (h4.eq (by show star (IsR rp (addP b.2 t id)) _ = star _ (star _ (star (IsR rp (addP b.2 t id)) _)); ac_rfl)))
end Go.Proofs.YtdobgebdlbckoaaGreatDoor.BkB
