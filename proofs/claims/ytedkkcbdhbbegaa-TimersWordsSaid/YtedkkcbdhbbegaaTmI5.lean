import Derived.Test.YtedkkcbdhbbegaaTmI4
import Derived.Test.YtedkkcbdhbbegaaFork
import Derived.WalkLawsBesides
import Derived.WalkSpells
import Derived.Test.YtedkkcbdhbbegaaRng
import Derived.OwnWalkIn
import Derived.TacticsInMore
import Derived.LoopNIn
import Derived.LoopIn
namespace Go.Proofs.Ytedkkcbdhbbegaa.TmI5
open Go Go.RowKit Go.Proofs Go.Proofs.Ytedkkcbdhbbegaa.Sep Go.Proofs.Ytedkkcbdhbbegaa.Reg Go.Proofs.Ytedkkcbdhbbegaa.Frame Go.Proofs.Ytedkkcbdhbbegaa.Slc Go.Proofs.Ytedkkcbdhbbegaa.Fork Go.Proofs.Ytedkkcbdhbbegaa.TmP Go.Proofs.Ytedkkcbdhbbegaa.TmQ Go.Proofs.Ytedkkcbdhbbegaa.Rng Go.Proofs.Ytedkkcbdhbbegaa.TmI Go.Proofs.Ytedkkcbdhbbegaa.TmI2 Go.Proofs.Ytedkkcbdhbbegaa.TmI3 Go.Proofs.Ytedkkcbdhbbegaa.TmI4

theorem Insert_any (v : Value) (l : List (κ × Int)) (n : Nat) (hn : l.length = n) (hn1 : n ≤ 1000000) (i : Nat) (hi : i ≤ n) (x : κ × Int) (vb : Nat) {W w : World} {R : Asn}
    (h : St W w (star (pt vb (.cells (tE x).toArray 61 (0, 0))) (star (Row 61 2 v n (tsV l)) R))) :
    Calls Try.prog 28 #[v, .int .i64 i, .slice (some ⟨vb, 0, none⟩) 1 1] w (NPost W (n + 1) (tsV (insP i x l)) R) := by
  rcases Nat.lt_or_ge i n with h1 | h1
  · obtain ⟨hxl, hv⟩ := h.swap.row
    rcases hv with ⟨rfl, h0, _⟩ | ⟨g, cap, cur, rfl, hnc, hcm, hcs, htk, hg⟩
    · omega
    · have h3 := hg.swap
      rcases Nat.lt_or_ge n cap with h4 | h4
      · exact Insert_room g cap cur l n hn hn1 i h1 (by omega) hcm hcs htk x vb h3
      · obtain rfl : n = cap := by omega
        exact Insert_grow g n cur l n hn hn1 i h1 rfl hcs htk x vb h3
  · obtain rfl : n = i := by omega
    exact Insert_end v l n hn hn1 x vb h

def SPost (W : World) (p : Nat) (b : Nat) (l : List (κ × Int)) (R : Asn) (e : Ending) (w' : World) : Prop := e = .returned (.int .i64 b) ∧ ∃ v, St W w' (star (IsT p v l) R)

set_option maxRecDepth 100000 in
set_option maxHeartbeats 8000000 in
theorem Set_bad (p : Nat) (k : κ) (d : Int) (h0 : d < 0 ∨ 4611686018427387904 < d) (w : World) :
    Calls Try.prog 13 #[.pointer (some ⟨p, 0, none⟩), kv k, .int .i64 d] w (Makes w (.int .i64 1)) := by
  rcases h0 with h0 | h0
  · go_enter Try.func13, Try.ntmps13
    go_wp2
    go_ret
    exact ⟨rfl, Below.refl _ _⟩
  · have h1 : ¬ d < 0 := by omega
    go_enter Try.func13, Try.ntmps13
    go_wp2
    go_ret
    exact ⟨rfl, Below.refl _ _⟩

set_option maxRecDepth 100000 in
set_option maxHeartbeats 8000000 in
theorem Set_any (p : Nat) (v : Value) (l : List (κ × Int)) (hs : Srt ltK l) (hn1 : l.length < 1000000) (k : κ) (d : Int) (hd0 : 0 ≤ d) (hd1 : d ≤ 4611686018427387904) {W w : World} {R : Asn} (h : St W w (star (IsT p v l) R)) :
    Calls Try.prog 13 #[.pointer (some ⟨p, 0, none⟩), kv k, .int .i64 d] w (SPost W p 0 (setP ltK k d l) R) := by
  have h01 : ¬ d < 0 := by omega
  have h02 : ¬ 4611686018427387904 < d := by omega
  have HC := Lib.hid (Cancel_any p v l k _ rfl h)
  go_enter Try.func13, Try.ntmps13
  go_wp2_with fail
  refine HC.out.mono ?_
  rintro e w1 ⟨rfl, v1, h1⟩
  have hm := cancelP_srt (k := k) hs
  have hml : (cancelP k l).length < 1000000 := Nat.lt_of_le_of_lt (cancelP_sub k l).length_le hn1
  have HS : Hid (setP ltK k d l = insP (posP ltK (k, d) (cancelP k l)) (k, d) (cancelP k l)) := Lib.hid rfl
  clear HC hs hn1 h
  generalize cancelP k l = m at *
  have h2 := (St.isT h1).alloc (.cells (tE (k, d)).toArray 61 (0, 0))
  have h3 := h2.swap
  obtain ⟨_, va, vc, rfl, _⟩ := id h2.right.right.rowSl
  obtain ⟨i, hi⟩ : ∃ i, posP ltK (k, d) m = i := ⟨_, rfl⟩
  have hin : i ≤ m.length := by rw [← hi]; exact List.findIdx_le_length
  have HS := Lib.hid (HS.out.trans (by rw [hi]))
  have HW : Hid (w1.alloc (.cells #[.int .i64 k, .int .i64 d] 61) = w1.alloc (.cells (tE (k, d)).toArray 61)) := Lib.hid rfl
  go_wp2_with fail
  rw [HW.out]
  clear HW
  have hB : w1.heap.size = w1.heap.size := rfl
  generalize w1.alloc (.cells (tE (k, d)).toArray 61) = w2 at *
  generalize w1.heap.size = B at *
  have hc0 := h3.drew.cell 0 rfl
  have hx0 := h2.drew.cell 0 rfl
  have hx1 := h2.drew.cell 1 rfl
  have HB := Lib.hid (BS_any va m.length vc m rfl k d i hi hm (by omega) w2.drew h2.drew.right.right.rowSl)
  clear hm hi hB h02 h01
  refine wp_region_canon [0, 1, 2, 3, 4, 5, 6, 7, 8, 9, 10] (by kernel_rfl) (by kernel_rfl) ?_
  simp only [pickOps, nthOp]
  go_wp2_with fail
  refine HB.out.mono ?_
  rintro e w4 ⟨⟨b, rfl⟩, hb⟩
  have h4 := h2.drew.past hb
  clear hb HB
  go_wp2_with fail
  simp only [Only]
  go_wp2_with fail
  have h5 := h4.drew
  have hp0 := h5.swap.cell 0 rfl
  have hx2 : w4.drew.cell? ⟨B, 0, none⟩ = some (kv k) := h5.cell 0 rfl
  have hx3 : w4.drew.cell? ⟨B, 1, none⟩ = some (.int .i64 d) := h5.cell 1 rfl
  have h6 := h5.alloc (.cells (tE (k, d)).toArray 61)
  have h7 : St W (w4.drew.alloc (.cells (tE (k, d)).toArray 61)) (star (pt w4.drew.heap.size (.cells (tE (k, d)).toArray 61 (0, 0))) (star (Row 61 2 (.slice va m.length vc) m.length (tsV m)) (star (pt p (.cells #[.slice va m.length vc] 58 (0, 0))) (star (pt B (.cells (tE (k, d)).toArray 61 (0, 0))) R)))) := h6.eq (by ac_rfl)
  have hp1 := h6.right.swap.cell 0 rfl
  have HI := Lib.hid (Insert_any _ m m.length rfl (by omega) i hin (k, d) _ h7)
  refine wp_region_fork [0, 1, 2, 3, 5, 6] [(4, [(false, [7, 8, 9, 10, 11])]), (7, [(false, [4, 8, 9, 10, 11])])] (by kernel_rfl) (by kernel_rfl) ?_
  simp only [pickOps, nthOp]
  go_wp2_with fail
  have HW : Hid ((w4.alloc (.cells #[.int .i64 k, .int .i64 d] 61)).drew = w4.drew.alloc (.cells (tE (k, d)).toArray 61)) := Lib.hid rfl
  have HL : Hid ((insP i (k, d) m).length = m.length + 1) := Lib.hid (by unfold insP; simp; omega)
  have hvb : w4.drew.heap.size = w4.heap.size := rfl
  rw [hvb] at HI h7
  clear hvb h6
  simp only [Reg.Next, wpFork]
  refine ⟨?_, ?_⟩
  · simp only [wpSegs, pickOps, nthOp]
    go_wp2_with fail
    simp only [Reg.Next]
    go_wp2_with fail
    rw [HW.out]
    clear HW
    generalize w4.drew.alloc (.cells (tE (k, d)).toArray 61) = w9 at *
    refine HI.out.mono ?_
    rintro e w8 ⟨v8, rfl, h8⟩
    obtain ⟨_, a8, c8, rfl, _⟩ := id h8.rowSl
    have hq0 := h8.swap.cell 0 rfl
    have hf0 := h8.swap.free 0
    go_wp2_with fail
    simp only [Reg.Next]
    go_wp2
    go_ret
    refine ⟨rfl, .slice a8 (m.length + 1) c8, St.toT ?_⟩
    rw [HS.out, HL.out]
    have h9 := h8.swap.setCell 0 (.slice a8 (m.length + 1) c8)
    exact St.right (A := pt B (.cells (tE (k, d)).toArray 61 (0, 0))) (h9.eq (by ac_rfl))
  · simp only [wpSegs, pickOps, nthOp]
    go_wp2_with fail
    simp only [Reg.Next]
    rw [HW.out]
    clear HW
    generalize w4.drew.alloc (.cells (tE (k, d)).toArray 61) = w9 at *
    go_wp2_with fail
    refine HI.out.mono ?_
    rintro e w8 ⟨v8, rfl, h8⟩
    obtain ⟨_, a8, c8, rfl, _⟩ := id h8.rowSl
    have hq0 := h8.swap.cell 0 rfl
    have hf0 := h8.swap.free 0
    go_wp2_with fail
    simp only [Reg.Next]
    go_wp2
    go_ret
    refine ⟨rfl, .slice a8 (m.length + 1) c8, St.toT ?_⟩
    rw [HS.out, HL.out]
    have h9 := h8.swap.setCell 0 (.slice a8 (m.length + 1) c8)
    exact St.right (A := pt B (.cells (tE (k, d)).toArray 61 (0, 0))) (h9.eq (by ac_rfl))

end Go.Proofs.Ytedkkcbdhbbegaa.TmI5
