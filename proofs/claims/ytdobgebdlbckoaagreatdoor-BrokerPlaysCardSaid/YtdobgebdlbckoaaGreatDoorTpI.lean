import Derived.Test.YtdobgebdlbckoaaGreatDoorTpB
import Derived.Test.YtdobgebdlbckoaaGreatDoorHeld
import Derived.Deep.Cut
import Derived.Carry
import Derived.WalkSpells
namespace Go.Proofs.YtdobgebdlbckoaaGreatDoor.TpI
open Go Go.RowKit Go.Proofs Go.Proofs.YtdobgebdlbckoaaGreatDoor.Sep Go.Proofs.YtdobgebdlbckoaaGreatDoor.Reg Go.Proofs.YtdobgebdlbckoaaGreatDoor.Frame Go.Proofs.YtdobgebdlbckoaaGreatDoor.Slc Go.Proofs.YtdobgebdlbckoaaGreatDoor.Mp Go.Proofs.YtdobgebdlbckoaaGreatDoor.Ms Go.Proofs.YtdobgebdlbckoaaGreatDoor.Held Go.Proofs.YtdobgebdlbckoaaGreatDoor.TpP Go.Proofs.YtdobgebdlbckoaaGreatDoor.TpA Go.Proofs.YtdobgebdlbckoaaGreatDoor.TpB

/-- A registry: its two maps. -/
def IsR (p : Nat) (w : List Pr) : Asn := ex fun q : (Nat × Nat) × (List (Tx × List Int) × List (Int × List Tx)) =>
  star (pu (RelT q.2.1 q.2.2 w)) (star (pt p (.cells #[.map (some q.1.1), .map (some q.1.2)] 101 (0, 0))) (star (MS kS kI 3 q.1.1 q.2.1) (MS kI kS 9 q.1.2 q.2.2)))
section
variable {W w : World} {p : Nat} {l : List Pr} {R : Asn}
theorem St.isR (h : St W w (star (IsR p l) R)) : ∃ bw bh who what, RelT who what l ∧ St W w (star (pt p (.cells #[.map (some bw), .map (some bh)] 101 (0, 0))) (star (MS kS kI 3 bw who) (star (MS kI kS 9 bh what) R))) := by
  obtain ⟨⟨⟨bw, bh⟩, who, what⟩, h⟩ := St.ex_iff.1 h
  obtain ⟨hr, h⟩ := St.pu_iff.1 (h.eq (star_assoc _ _ _))
  exact ⟨bw, bh, who, what, hr, h.eq (by simp only [star_assoc])⟩
theorem St.toR {bw bh : Nat} {who : List (Tx × List Int)} {what : List (Int × List Tx)} (hr : RelT who what l) (h : St W w (star (pt p (.cells #[.map (some bw), .map (some bh)] 101 (0, 0))) (star (MS kS kI 3 bw who) (star (MS kI kS 9 bh what) R)))) : St W w (star (IsR p l) R) := by
  refine St.ex_iff.2 ⟨((bw, bh), (who, what)), ?_⟩
  refine St.eq ?_ (star_assoc _ _ _).symm
  exact St.pu_iff.2 ⟨hr, h.eq (by simp only [star_assoc])⟩
end
theorem cS : KeyC .string kS := keyC_str
theorem cI : KeyC (.int .i64) kI := keyC_int .i64

set_option maxRecDepth 100000 in
set_option maxHeartbeats 4000000 in
theorem New_any {W w : World} {R : Asn} (h : St W w R) : Calls Tryz.prog 30 #[] w fun e w' => ∃ p, e = .returned (.pointer (some ⟨p, 0, none⟩)) ∧ St W w' (star (IsR p []) R) := by
  have h1 := St.newMs kS kI 3 h
  have h2 := St.newMs kI kS 9 h1
  have h3 := h2.alloc (.cells #[.map (some w.heap.size), .map (some (w.heap.size + 1))] 101 (0, 0))
  rw [World.size_alloc, World.size_alloc] at h3
  have hmm := @run_makeMap Tryz.prog
  go_enter Tryz.func30, Tryz.ntmps30
  go_wp2
  go_ret
  exact ⟨_, rfl, St.toR (bw := w.heap.size) (bh := w.heap.size + 1) RelT.nil (h3.eq (by ac_rfl))⟩
set_option maxRecDepth 100000 in
theorem none_any (p bw : Nat) (w : World) (h : w.cell? ⟨p, 0, none⟩ = some (.map (some bw))) : Calls Tryz.prog 61 #[.pointer (some ⟨p, 0, none⟩)] w fun e w' => e = .returned (.bool false) ∧ w' = w := by
  have q : ∀ (w : World) (r : Option Nat), (binOp .eql 99 (.map r) (.map none)).run Tryz.prog w = .ok (.bool r.isNone) w := fun w r => run_eql_map_nil w _ _ _ r Tryz.underlying99
  go_enter Tryz.func61, Tryz.ntmps61
  go_wp2
  go_ret
  exact ⟨rfl, rfl⟩
set_option maxRecDepth 100000 in
theorem none_nil (w : World) : Calls Tryz.prog 61 #[.pointer none] w (Makes w (.bool true)) := by
  go_enter Tryz.func61, Tryz.ntmps61
  go_wp2
  go_ret
  exact Makes.mk0 _ _
/-- What somebody hears, as new memory. -/
def BPost (W : World) (p : Nat) (l : List Pr) (k : Int) (R : Asn) (e : Ending) (w' : World) : Prop := ∃ a c, e = .returned (.slice a (byP l k).length c) ∧ St W w' (star (Row 9 1 (.slice a (byP l k).length c) (byP l k).length ((byP l k).map kS)) (star (IsR p l) R))
theorem byP_le (w : List Pr) (k : Int) : (byP w k).length ≤ w.length := by
  unfold byP; rw [List.length_map]; exact List.length_filter_le _ _
theorem ofP_le (w : List Pr) (t : Tx) : (ofP w t).length ≤ w.length := by
  unfold ofP; rw [List.length_map]; exact List.length_filter_le _ _
set_option maxRecDepth 100000 in
set_option maxHeartbeats 4000000 in
theorem By_any (p : Nat) (l : List Pr) (hl : l.length ≤ 1000000) (k : Int) {W w : World} {R : Asn} (h : St W w (star (IsR p l) R)) :
    Calls Tryz.prog 40 #[.pointer (some ⟨p, 0, none⟩), .int .i64 k] w (BPost W p l k R) := by
  obtain ⟨bw, bh, who, what, hr, h1⟩ := St.isR h
  have hN := Lib.hid (none_any p bw w (h1.cell 0 rfl))
  obtain ⟨es, hk, hnd, h2⟩ := St.msTake (h1.eq (B := star (MS kI kS 9 bh what) (star (pt p (.cells #[.map (some bw), .map (some bh)] 101 (0, 0))) (star (MS kS kI 3 bw who) R))) (by ac_rfl)) k
  have hwk : (getM k what).getD [] = byP l k := by rw [hr.what, nz_getD]
  rw [hwk] at h2
  have HK := Lib.hid hk
  have HND := Lib.hid hnd
  have HWK := Lib.hid hwk
  have HR := Lib.hid hr
  clear h h1 hk hnd hwk hr
  go_enter Tryz.func40, Tryz.ntmps40
  go_wp2_with fail
  refine hN.out.mono ?_
  rintro e w3 ⟨rfl, rfl⟩
  have h3 := h2
  have hlk := run_lookup (P := Tryz.prog) (t := 35) cI Tryz.underlying35 Tryz.underlying3 (Tryz.zeroValue36 w3) h3 k false
  have hc := (h3.right.right.right).cell 1 rfl
  have HC := Lib.hid (CloneS_any _ (byP l k) _ rfl (Nat.le_trans (byP_le l k) hl) h3 h3.right.rowSl)
  generalize hv : (getM k es).getD nilS = v at *
  have HV := Lib.hid hv
  clear hv h2
  go_wp2_with fail
  refine HC.out.mono ?_
  rintro e w4 ⟨v4, rfl, h4⟩
  obtain ⟨_, a4, c4, rfl, _⟩ := id h4.rowSl
  have h5 : St W w4 (star (Mp kI bh es) (star (Row 9 1 ((getM k es).getD nilS) ((getM k what).getD []).length (((getM k what).getD []).map kS)) (star (RowsOf 9 kS ((delM k es).map (·.2)) ((delM k what).map (·.2))) (star (Row 9 1 (.slice a4 (byP l k).length c4) (byP l k).length ((byP l k).map kS)) (star (pt p (.cells #[.map (some bw), .map (some bh)] 101 (0, 0))) (star (MS kS kI 3 bw who) R)))))) := by
    rw [HV.out, HWK.out]
    exact h4.eq (by ac_rfl)
  have h6 := St.msBack HK.out HND.out h5
  clear h4 h5 h3 HC hlk
  go_wp2
  go_ret
  exact ⟨_, _, rfl, (St.toR (bw := bw) (bh := bh) HR.out (R := star (Row 9 1 (.slice a4 (byP l k).length c4) (byP l k).length ((byP l k).map kS)) R) (h6.eq (by ac_rfl))).swap⟩
end Go.Proofs.YtdobgebdlbckoaaGreatDoor.TpI
