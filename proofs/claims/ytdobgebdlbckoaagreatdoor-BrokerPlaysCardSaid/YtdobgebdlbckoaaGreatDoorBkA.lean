import Derived.Test.YtdobgebdlbckoaaGreatDoorBkP
import Derived.Test.YtdobgebdlbckoaaGreatDoorTpNd
import Derived.Test.YtdobgebdlbckoaaGreatDoorWdH
import Derived.Carry
import Derived.WalkSpells
namespace Go.Proofs.YtdobgebdlbckoaaGreatDoor.BkA
set_option linter.unusedSectionVars false
open Go Go.RowKit Go.Proofs Go.Proofs.YtdobgebdlbckoaaGreatDoor.Sep Go.Proofs.YtdobgebdlbckoaaGreatDoor.Reg Go.Proofs.YtdobgebdlbckoaaGreatDoor.Frame Go.Proofs.YtdobgebdlbckoaaGreatDoor.Mp Go.Proofs.YtdobgebdlbckoaaGreatDoor.WdP Go.Proofs.YtdobgebdlbckoaaGreatDoor.WdN Go.Proofs.YtdobgebdlbckoaaGreatDoor.TpP Go.Proofs.YtdobgebdlbckoaaGreatDoor.TpA Go.Proofs.YtdobgebdlbckoaaGreatDoor.TpI Go.Proofs.YtdobgebdlbckoaaGreatDoor.TpK Go.Proofs.YtdobgebdlbckoaaGreatDoor.TpL Go.Proofs.YtdobgebdlbckoaaGreatDoor.TpM Go.Proofs.YtdobgebdlbckoaaGreatDoor.TpNd Go.Proofs.YtdobgebdlbckoaaGreatDoor.BkP

/-! ### A map whose values are told by a function -/
section
variable {κ α β : Type} [DecidableEq κ] (f : α → β)
def mapV (es : List (κ × α)) : List (κ × β) := es.map fun e => (e.1, f e.2)
theorem mapV_keys (es : List (κ × α)) : (mapV f es).map (·.1) = es.map (·.1) := by unfold mapV; rw [List.map_map]; rfl
theorem mapV_get (k : κ) (es : List (κ × α)) : getM k (mapV f es) = (getM k es).map f := by
  induction es with
  | nil => rfl
  | cons e es ih =>
    unfold mapV at ih ⊢
    rw [List.map_cons, getM_cons, getM_cons]
    split
    · rfl
    · exact ih
theorem mapV_put (k : κ) (v : α) (es : List (κ × α)) : putM k (f v) (mapV f es) = mapV f (putM k v es) := by
  unfold putM
  rw [mapV_keys]
  split
  · unfold mapV
    rw [List.map_map, List.map_map]
    refine List.map_congr_left fun e _ => ?_
    simp only [Function.comp]
    split <;> rfl
  · simp [mapV]
theorem mapV_del (k : κ) (es : List (κ × α)) : delM k (mapV f es) = mapV f (delM k es) := by
  unfold delM mapV
  rw [List.filter_map]
  rfl
end
def nV (n : Nat) : Value := .int .i64 (n : Int)
def pubV (l : Pub) : List (Int × Value) := mapV nV l
/-- A broker. -/
def IsB (p : Nat) (b : BS) : Asn := ex fun q : Nat × Nat => star (pt p (.cells #[.map (some q.1), .pointer (some ⟨q.2, 0, none⟩)] 72 (0, 0))) (star (Mp kI q.1 (pubV b.1)) (IsR q.2 b.2))
section
variable {W w : World} {p : Nat} {b : BS} {R : Asn}
theorem St.isB (h : St W w (star (IsB p b) R)) : ∃ bm rp, St W w (star (pt p (.cells #[.map (some bm), .pointer (some ⟨rp, 0, none⟩)] 72 (0, 0))) (star (Mp kI bm (pubV b.1)) (star (IsR rp b.2) R))) := by
  obtain ⟨⟨bm, rp⟩, h⟩ := St.ex_iff.1 h
  exact ⟨bm, rp, h.eq (by simp only [star_assoc])⟩
theorem St.toB {bm rp : Nat} (h : St W w (star (pt p (.cells #[.map (some bm), .pointer (some ⟨rp, 0, none⟩)] 72 (0, 0))) (star (Mp kI bm (pubV b.1)) (star (IsR rp b.2) R)))) : St W w (star (IsB p b) R) :=
  St.ex_iff.2 ⟨(bm, rp), h.eq (by simp only [star_assoc])⟩
end
def NewPst (W : World) (R : Asn) (e : Ending) (w' : World) : Prop := ∃ p, e = .returned (.pointer (some ⟨p, 0, none⟩)) ∧ St W w' (star (IsB p ([], [])) R)
set_option maxRecDepth 100000 in
set_option maxHeartbeats 4000000 in
theorem New_any {W w : World} {R : Asn} (h : St W w R) : Calls Tryz.prog 10 #[] w (NewPst W R) := by
  have h1 := St.newMp kI h
  have HN := Lib.hid (TpI.New_any h1)
  have hmm := @run_makeMap Tryz.prog
  clear h h1
  obtain ⟨bm, hbm⟩ : ∃ bm, w.heap.size = bm := ⟨_, rfl⟩
  go_enter Tryz.func10, Tryz.ntmps10
  go_wp2_with fail
  refine HN.out.mono ?_
  rintro e w2 ⟨rp, rfl, h2⟩
  rw [hbm] at h2
  have h3 := h2.alloc (.cells #[.map (some bm), .pointer (some ⟨rp, 0, none⟩)] 72 (0, 0))
  clear HN h2
  go_wp2
  go_ret
  exact ⟨_, rfl, St.toB (b := ([], [])) (bm := bm) (rp := rp) (h3.eq (by show star _ (star _ (star (Mp kI bm []) R)) = star _ (star (Mp kI bm []) (star _ R)); ac_rfl))⟩
set_option maxRecDepth 100000 in
theorem none_any (p bm : Nat) (w : World) (h : w.cell? ⟨p, 0, none⟩ = some (.map (some bm))) : Calls Tryz.prog 31 #[.pointer (some ⟨p, 0, none⟩)] w fun e w' => e = .returned (.bool false) ∧ w = w' := by
  have q : ∀ (w : World) (r : Option Nat), (binOp .eql 58 (.map r) (.map none)).run Tryz.prog w = .ok (.bool r.isNone) w := fun w r => run_eql_map_nil w _ _ _ r Tryz.underlying58
  go_enter Tryz.func31, Tryz.ntmps31
  go_wp2
  go_ret
  exact ⟨rfl, rfl⟩
set_option maxRecDepth 100000 in
theorem none_nil (w : World) : Calls Tryz.prog 31 #[.pointer none] w fun e w' => e = .returned (.bool true) ∧ w = w' := by
  go_enter Tryz.func31, Tryz.ntmps31
  go_wp2
  go_ret
  exact ⟨rfl, rfl⟩
theorem look2 {W w : World} {bm : Nat} {l : Pub} {R : Asn} (h : St W w (star (Mp kI bm (pubV l)) R)) (k : Int) : (Instr.lookup 58 (.map (some bm)) (.int .i64 k) true).run Tryz.prog w = .ok (.tuple #[.int .i64 ((getM k l).getD 0 : Nat), .bool (getM k l).isSome]) w := by
  have := run_lookup (P := Tryz.prog) (t := 58) cI Tryz.underlying58 Tryz.underlying3 (Tryz.zeroValue3 w) h k true
  unfold pubV at this
  rw [mapV_get] at this
  rw [this]
  cases getM k l <;> rfl
theorem look1 {W w : World} {bm : Nat} {l : Pub} {R : Asn} (h : St W w (star (Mp kI bm (pubV l)) R)) (k : Int) : (Instr.lookup 58 (.map (some bm)) (.int .i64 k) false).run Tryz.prog w = .ok (.int .i64 ((getM k l).getD 0 : Nat)) w := by
  have := run_lookup (P := Tryz.prog) (t := 58) cI Tryz.underlying58 Tryz.underlying3 (Tryz.zeroValue3 w) h k false
  unfold pubV at this
  rw [mapV_get] at this
  rw [this]
  cases getM k l <;> rfl
set_option maxRecDepth 100000 in
theorem member_any {W w : World} {R : Asn} (p : Nat) (b : BS) (h : St W w (star (IsB p b) R)) (id : Int) : Calls Tryz.prog 32 #[.pointer (some ⟨p, 0, none⟩), .int .i64 id] w fun e w' => e = .returned (.bool (isM b id)) ∧ w = w' := by
  obtain ⟨bm, rp, h1⟩ := St.isB h
  have HN := Lib.hid (none_any p bm w (h1.cell 0 rfl))
  have c0 := h1.cell 0 (v := .map (some bm)) rfl
  have hl := look2 h1.right id
  have e : isM b id = (getM id b.1).isSome := rfl
  rw [e]
  clear h h1 e
  generalize getM id b.1 = o at *
  go_enter Tryz.func32, Tryz.ntmps32
  go_wp2_with fail
  refine HN.out.mono ?_
  rintro e w1 ⟨rfl, rfl⟩
  go_wp2
  go_ret
  exact ⟨rfl, rfl⟩
set_option maxRecDepth 100000 in
theorem member_nil (id : Int) (w : World) : Calls Tryz.prog 32 #[.pointer none, .int .i64 id] w fun e w' => e = .returned (.bool false) ∧ w = w' := by
  have HN := Lib.hid (none_nil w)
  go_enter Tryz.func32, Tryz.ntmps32
  go_wp2_with fail
  refine HN.out.mono ?_
  rintro e w1 ⟨rfl, rfl⟩
  go_wp2
  go_ret
  exact ⟨rfl, rfl⟩
/-- A call that ends with a number, and the broker then. -/
def JPst (W : World) (p : Nat) (r : Int × BS) (R : Asn) (e : Ending) (w' : World) : Prop := e = .returned (.int .i64 r.1) ∧ St W w' (star (IsB p r.2) R)
theorem JPst.mk {W w' : World} {p : Nat} {r : Int × BS} {R : Asn} {e : Ending} {n : Int} {b : BS} (h : r = (n, b)) (he : e = .returned (.int .i64 n)) (hS : St W w' (star (IsB p b) R)) : JPst W p r R e w' := by subst h; exact ⟨he, hS⟩
set_option maxRecDepth 100000 in
set_option maxHeartbeats 8000000 in
theorem Join_any {W w : World} {R : Asn} (p : Nat) (b : BS) (h : St W w (star (IsB p b) R)) (id : Int) : Calls Tryz.prog 11 #[.pointer (some ⟨p, 0, none⟩), .int .i64 id] w (JPst W p (joinB b id) R) := by
  obtain ⟨bm, rp, h1⟩ := St.isB h
  have HN := Lib.hid (none_any p bm w (h1.cell 0 rfl))
  have HMe := Lib.hid (member_any p b h id)
  have HH := Lib.hid h
  have H1 := Lib.hid h1
  have c0 := h1.cell 0 (v := .map (some bm)) rfl
  have h1m := h1.swap
  obtain ⟨r, hr⟩ : ∃ r, joinB b id = r := ⟨_, rfl⟩
  rw [hr]
  have HR := Lib.hid hr
  clear h h1 hr
  by_cases h0 : id < 0
  · have HE : Hid (r = (1, b)) := Lib.hid (by rw [← HR.out]; unfold joinB; rw [if_pos (.inl h0)])
    have hd : decide (id < 0) = true := decide_eq_true h0
    clear h0
    go_enter Tryz.func11, Tryz.ntmps11
    go_wp2_with fail
    refine HN.out.mono ?_
    rintro e w1 ⟨rfl, rfl⟩
    go_wp2
    go_ret
    exact JPst.mk HE.out rfl HH.out
  · have hd : decide (id < 0) = false := decide_eq_false h0
    by_cases hb : 4611686018427387904 < id
    · have HE : Hid (r = (1, b)) := Lib.hid (by rw [← HR.out]; unfold joinB; rw [if_pos (.inr hb)])
      have hd2 : decide (4611686018427387904 < id) = true := decide_eq_true hb
      clear h0 hb
      go_enter Tryz.func11, Tryz.ntmps11
      go_wp2_with fail
      refine HN.out.mono ?_
      rintro e w1 ⟨rfl, rfl⟩
      go_wp2
      go_ret
      exact JPst.mk HE.out rfl HH.out
    · have hd2 : decide (4611686018427387904 < id) = false := decide_eq_false hb
      have HE0 : Hid (r = if isM b id = true then (5, b) else (0, (putM id 0 b.1, b.2))) := Lib.hid (by rw [← HR.out]; unfold joinB; rw [if_neg (fun h => h.elim h0 hb)])
      clear h0 hb
      cases hm : isM b id with
      | true =>
        rw [hm] at HMe HE0
        have HE : Hid (r = (5, b)) := Lib.hid (by rw [HE0.out]; rfl)
        clear hm HE0
        go_enter Tryz.func11, Tryz.ntmps11
        go_wp2_with fail
        refine HN.out.mono ?_
        rintro e w1 ⟨rfl, rfl⟩
        go_wp2_with fail
        refine HMe.out.mono ?_
        rintro e w1 ⟨rfl, rfl⟩
        go_wp2
        go_ret
        exact JPst.mk HE.out rfl HH.out
      | false =>
        rw [hm] at HMe HE0
        have HE : Hid (r = (0, (putM id 0 b.1, b.2))) := Lib.hid (by rw [HE0.out]; rfl)
        clear hm HE0
        go_enter Tryz.func11, Tryz.ntmps11
        go_wp2_with fail
        refine HN.out.mono ?_
        rintro e w1 ⟨rfl, rfl⟩
        go_wp2_with fail
        refine HMe.out.mono ?_
        rintro e w1 ⟨rfl, rfl⟩
        go_wp2_with (at_mapUpdate; refine wpList_mapUpdate cI rfl _ _ _ rfl Tryz.underlying58 Tryz.underlying3 rfl h1m id (.int .i64 0) rfl rfl ?_)
        intro w5 h5
        go_wp2
        go_ret
        refine JPst.mk HE.out rfl (St.toB (bm := bm) (rp := rp) (h5.swap.eq ?_))
        have e : putM id (Value.int .i64 0) (pubV b.1) = pubV (putM id 0 b.1) := mapV_put nV id 0 b.1
        rw [e]
set_option maxRecDepth 100000 in
set_option maxHeartbeats 8000000 in
theorem Leave_any {W w : World} {R : Asn} (p : Nat) (b : BS) (h : St W w (star (IsB p b) R)) (hl : b.2.length ≤ 1000000) (id : Int) : Calls Tryz.prog 12 #[.pointer (some ⟨p, 0, none⟩), .int .i64 id] w (JPst W p (leaveB b id) R) := by
  obtain ⟨bm, rp, h1⟩ := St.isB h
  have HN := Lib.hid (none_any p bm w (h1.cell 0 rfl))
  have HMe := Lib.hid (member_any p b h id)
  have HH := Lib.hid h
  have c1 := h1.cell 1 (v := .pointer (some ⟨rp, 0, none⟩)) rfl
  have HD := Lib.hid (DropAll_any rp b.2 hl id (h1.eq (B := star (IsR rp b.2) (star (pt p (.cells #[.map (some bm), .pointer (some ⟨rp, 0, none⟩)] 72 (0, 0))) (star (Mp kI bm (pubV b.1)) R))) (by ac_rfl)))
  obtain ⟨r, hr⟩ : ∃ r, leaveB b id = r := ⟨_, rfl⟩
  rw [hr]
  have HR := Lib.hid hr
  clear h h1 hr hl
  cases hm : isM b id with
  | false =>
    rw [hm] at HMe
    have HE : Hid (r = (4, b)) := Lib.hid (by rw [← HR.out]; unfold leaveB; rw [hm]; rfl)
    clear hm
    go_enter Tryz.func12, Tryz.ntmps12
    go_wp2_with fail
    refine HN.out.mono ?_
    rintro e w1 ⟨rfl, rfl⟩
    go_wp2_with fail
    refine HMe.out.mono ?_
    rintro e w1 ⟨rfl, rfl⟩
    go_wp2
    go_ret
    exact JPst.mk HE.out rfl HH.out
  | true =>
    rw [hm] at HMe
    have HE : Hid (r = (0, (delM id b.1, dropAllP b.2 id))) := Lib.hid (by rw [← HR.out]; unfold leaveB; rw [hm]; rfl)
    clear hm
    go_enter Tryz.func12, Tryz.ntmps12
    go_wp2_with fail
    refine HN.out.mono ?_
    rintro e w1 ⟨rfl, rfl⟩
    go_wp2_with fail
    refine HMe.out.mono ?_
    rintro e w1 ⟨rfl, rfl⟩
    go_wp2_with fail
    refine HD.out.mono ?_
    rintro e w2 ⟨a, c, rfl, h2⟩
    have h3 := h2.right.eq (B := star (Mp kI bm (pubV b.1)) (star (pt p (.cells #[.map (some bm), .pointer (some ⟨rp, 0, none⟩)] 72 (0, 0))) (star (IsR rp (dropAllP b.2 id)) R))) (by ac_rfl)
    have c0 := h3.right.cell 0 (v := .map (some bm)) rfl
    clear h2 c1
    go_wp2_with (at_delete; refine wpList_delete cI rfl _ _ rfl Tryz.underlying58 Tryz.underlying3 rfl h3 id rfl ?_)
    intro w5 h5
    go_wp2
    go_ret
    refine JPst.mk HE.out rfl (St.toB (b := (delM id b.1, dropAllP b.2 id)) (bm := bm) (rp := rp) (h5.swap.eq ?_))
    have e : delM id (pubV b.1) = pubV (delM id b.1) := mapV_del nV id b.1
    rw [e]
end Go.Proofs.YtdobgebdlbckoaaGreatDoor.BkA
