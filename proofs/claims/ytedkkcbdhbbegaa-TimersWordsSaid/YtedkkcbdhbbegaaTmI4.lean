import Derived.Test.YtedkkcbdhbbegaaTmI3
import Derived.Test.YtedkkcbdhbbegaaFork
import Derived.WalkLawsBesides
import Derived.WalkSpells
import Derived.Test.YtedkkcbdhbbegaaRng
import Derived.OwnWalkIn
import Derived.TacticsInMore
import Derived.LoopNIn
import Derived.LoopIn
namespace Go.Proofs.Ytedkkcbdhbbegaa.TmI4
open Go Go.RowKit Go.Proofs Go.Proofs.Ytedkkcbdhbbegaa.Sep Go.Proofs.Ytedkkcbdhbbegaa.Reg Go.Proofs.Ytedkkcbdhbbegaa.Frame Go.Proofs.Ytedkkcbdhbbegaa.Slc Go.Proofs.Ytedkkcbdhbbegaa.Fork Go.Proofs.Ytedkkcbdhbbegaa.TmP Go.Proofs.Ytedkkcbdhbbegaa.TmQ Go.Proofs.Ytedkkcbdhbbegaa.Rng Go.Proofs.Ytedkkcbdhbbegaa.TmI Go.Proofs.Ytedkkcbdhbbegaa.TmI2 Go.Proofs.Ytedkkcbdhbbegaa.TmI3

theorem infoT3 : (Try.prog.info? 61).map (fun i => (i.zero, i.size, i.bytes)) = some (some zV, 2, 16) := by kernel_rfl
theorem tE_one (x : κ × Int) : ∀ u ∈ tE x, u.oneCell' = true := by
  intro u hu
  simp only [tE, List.mem_cons, List.not_mem_nil, or_false] at hu
  rcases hu with rfl | rfl <;> rfl
theorem one_sl {W w : World} {vb : Nat} {x : κ × Int} {R : Asn} (h : St W w (star (pt vb (.cells (tE x).toArray 61 (0, 0))) R)) : Sl w 2 (.slice (some ⟨vb, 0, none⟩) 1 1) 1 (tE x) := by
  refine ⟨rfl, _, _, rfl, Nat.le_refl _, by decide, (by intro h; cases h), fun ad hd i u hu => ?_⟩
  cases hd
  have hadd : (⟨vb, 0, none⟩ : Addr).add i = ⟨vb, i, none⟩ := by unfold Addr.add; split <;> simp_all
  rw [hadd]
  exact h.cell i (by simpa using hu)
theorem insP_V (l : List (κ × Int)) (i : Nat) (x : κ × Int) : tsV (insP i x l) = tsV (l.take i) ++ (tE x ++ tsV (l.drop i)) := by
  unfold insP
  rw [tsV_append]
  rfl
def NPost (W : World) (n : Nat) (xs : List Value) (R : Asn) (e : Ending) (w' : World) : Prop := ∃ v', e = .returned v' ∧ St W w' (star (Row 61 2 v' n xs) R)
set_option maxRecDepth 100000 in
set_option maxHeartbeats 8000000 in
theorem Insert_end (v : Value) (l : List (κ × Int)) (n : Nat) (hn : l.length = n) (hn1 : n ≤ 1000000) (x : κ × Int) (vb : Nat) {W w : World} {R : Asn}
    (h : St W w (star (pt vb (.cells (tE x).toArray 61 (0, 0))) (star (Row 61 2 v n (tsV l)) R))) :
    Calls Try.prog 28 #[v, .int .i64 n, .slice (some ⟨vb, 0, none⟩) 1 1] w (NPost W (n + 1) (tsV (insP n x l)) R) := by
  obtain ⟨i0, hi0, hz0, hz1, hz2⟩ := info_parts infoT3
  have hsl := h.right.rowSl
  obtain ⟨_, va, vc, rfl, hvc, hvm, _⟩ := id hsl
  have hvm2 : vc ≤ 9223372036854775807 := by simpa [maxLen] using hvm
  have U := Try.underlying56
  have hs0 := run_cut_l' (P := Try.prog) 56 61 2 U infoT va n vc (n : Int) n rfl (Nat.le_refl _)
  have HX : Hid (tsV l ++ tE x = tsV (insP n x l)) := Lib.hid (by
    rw [insP_V, List.take_of_length_le (by omega), List.drop_of_length_le (by omega)]; simp [tsV])
  generalize cutV va vc n n 2 = x0 at hs0
  have hx1 := one_sl h
  go_enter Try.func28, Try.ntmps28
  go_wp2_with (at_builtin; refine wpList_append_Sl rfl (.tmp 23) (.tmp 24) 56 rfl 61 i0 zV 2 16 U hi0 hz0 hz1 hz2 rfl _ n (tsV l) rfl h.swap _ 1 (tE x) rfl hx1 (tE_one x) (by unfold maxLen; omega) (by omega) ?_; intro v9 w9 hS9 hv9)
  obtain ⟨_, a9, c9, rfl, _⟩ := id hS9.rowSl
  go_wp2
  go_ret
  rw [HX.out] at hS9
  exact ⟨_, rfl, hS9.swap.right⟩

set_option maxRecDepth 100000 in
set_option maxHeartbeats 8000000 in
theorem Insert_grow (g cap : Nat) (cur : Array Value) (l : List (κ × Int)) (n : Nat) (hn : l.length = n) (hn1 : n ≤ 1000000) (i : Nat) (hi : i < n) (hcap : n = cap) (hcs : cur.size = cap * 2) (htk : cur.toList.take (n * 2) = tsV l) (x : κ × Int) (vb : Nat) {W w : World} {R : Asn}
    (h : St W w (star (pt vb (.cells (tE x).toArray 61 (0, 0))) (star (pt g (.cells cur 61 (0, 0))) R))) :
    Calls Try.prog 28 #[.slice (some ⟨g, 0, none⟩) n cap, .int .i64 i, .slice (some ⟨vb, 0, none⟩) 1 1] w (NPost W (n + 1) (tsV (insP i x l)) R) := by
  obtain ⟨i0, hi0, hz0, hz1, hz2⟩ := info_parts infoT3
  have U := Try.underlying56
  subst hcap
  have hrow := St.mkRow (size := 2) (xs := tsV l) h.swap (Nat.le_refl n) (by unfold maxLen; omega) hcs htk
  have hsl := hrow.rowSl
  have hs0 := run_cut_l' (P := Try.prog) 56 61 2 U infoT (some ⟨g, 0, none⟩) n n (i : Int) i rfl (by omega)
  rw [cut_tail g n i n 2 hi] at hs0
  have hs1 := run_head (P := Try.prog) 56 61 2 U infoT g n n i (by omega) (i : Int) rfl
  have hti : cur.toList.take (i * 2) = tsV (l.take i) := by
    have : cur.toList.take (i * 2) = (cur.toList.take (n * 2)).take (i * 2) := by rw [List.take_take]; congr 1; omega
    rw [this, htk, tsV_take]
  have hrowi := (St.mkRow (size := 2) (n := i) (cap := n) (xs := tsV (l.take i)) h.swap.drew (by omega) (by unfold maxLen; omega) hcs hti).rowSl
  have hold : (Builtin.firstCells i0.size i (.slice (some ⟨g, 0, none⟩) i n)).run Try.prog w.drew = .ok (tsV (l.take i)).toArray w.drew := by
    rw [hz1]
    obtain ⟨hl, a', c', hv, h2, h3, h4, h5⟩ := hrowi
    cases hv
    exact run_firstCells_some (P := Try.prog) w.drew 2 i _ i n _ hl (h5 _ rfl)
  have hA := Lib.run_append_grow_zeros (P := Try.prog) w 56 3 56 61 i0 zV .i64 .i64 U Try.underlying3 hi0 hz0 (some ⟨g, 0, none⟩) i n _ hold (n + 1 - i) (by omega) (by omega) (by omega) (by omega) (by rw [hz2]; omega) (growslice_fits (by omega) (by rw [hz2]; omega))
  rw [show i + (n + 1 - i) = n + 1 from by omega] at hA
  have hge := grownCap_ge w (n + 1) n 61
  have hgm := grownCap_le_maxLen w (n + 1) n 61 (by unfold maxLen; omega)
  generalize grownCap w (n + 1) n 61 = gc at *
  have hgm2 : gc ≤ 9223372036854775807 := by simpa [maxLen] using hgm
  have h1 := h.drew.alloc (.cells ((tsV (l.take i)).toArray ++ Builtin.zeroCells zV.cells (n + 1 - i) ++ Builtin.zeroCells zV.cells (gc - (n + 1))) 61)
  have hbig : ((tsV (l.take i)).toArray ++ Builtin.zeroCells zV.cells (n + 1 - i) ++ Builtin.zeroCells zV.cells (gc - (n + 1))).size = gc * 2 := by
    simp [size_zeroCells, zV, Value.cells, tsV_length]; omega
  have hbt : ((tsV (l.take i)).toArray ++ Builtin.zeroCells zV.cells (n + 1 - i) ++ Builtin.zeroCells zV.cells (gc - (n + 1))).toList.take (i * 2) = tsV (l.take i) := by
    have : (tsV (l.take i)).length = i * 2 := by rw [tsV_length]; simp; omega
    rw [Array.toList_append, Array.toList_append, List.append_assoc, ← this]
    exact List.take_left
  generalize hbb : ((tsV (l.take i)).toArray ++ Builtin.zeroCells zV.cells (n + 1 - i) ++ Builtin.zeroCells zV.cells (gc - (n + 1))) = big at *
  have hB : w.drew.heap.size = w.heap.size := rfl
  rw [hB] at h1
  generalize hBg : w.heap.size = B at *
  generalize hw1 : w.drew.alloc (.cells big 61) = w1 at hA h1
  have hs2 := run_cut_l' (P := Try.prog) 56 61 2 U infoT (some ⟨B, 0, none⟩) (n + 1) gc (i : Int) i rfl (by omega)
  rw [cut_tail B gc i (n + 1) 2 (by omega)] at hs2
  have hxl : (tE x).length = 2 := rfl
  have hC1 := fun ty => run_copy_spl (P := Try.prog) h1 56 56 ty 61 2 U infoT (i * 2) (n + 1 - i) (gc - i) (some ⟨vb, 0, none⟩) 1 1 (tE x) (by rw [hxl, Nat.min_eq_left (by omega)]) (fun ad hd => by
    cases hd
    obtain ⟨hl, a', c', hv, h2, h3, h4, h5⟩ := one_sl h1.swap
    cases hv
    exact h5 _ rfl) (by intro h; cases h) (tE_one x) (by rw [hxl, hbig]; omega)
  have h2 := St.spl h1 (i * 2) (tE x)
  have hl2 : (spl big.toList (i * 2) (tE x)).length = gc * 2 := by rw [spl_len (by rw [hxl]; simp [hbig]; omega)]; simp [hbig]
  have ht2 : (spl big.toList (i * 2) (tE x)).take ((i + 1) * 2) = tsV (l.take i) ++ tE x := by
    rw [spl_take (by rw [hxl]; omega) (by simp [hbig]; omega), hbt]
  generalize hsp : spl big.toList (i * 2) (tE x) = sp at *
  generalize hw2 : w1.setRow B sp.toArray = w2 at *
  have hs3 := run_cut_l' (P := Try.prog) 56 61 2 U infoT (some ⟨B, 0, none⟩) (n + 1) gc ((i : Int) + 1) (i + 1) (by omega) (by omega)
  rw [cut_tail B gc (i + 1) (n + 1) 2 (by omega), show n + 1 - (i + 1) = n - i from by omega] at hs3
  have hdl : (tsV (l.drop i)).length = (n - i) * 2 := by rw [tsV_length]; simp; omega
  have hC2 := fun ty => run_copy_spl (P := Try.prog) h2.drew 56 56 ty 61 2 U infoT ((i + 1) * 2) (n - i) (gc - (i + 1)) (some ⟨g, i * 2, none⟩) (n - i) (n - i) (tsV (l.drop i)) (by rw [hdl, Nat.min_self]) (fun ad hd => by
    cases hd
    have hr2 := (St.mkRow (size := 2) (xs := tsV l) h2.drew.right.swap (Nat.le_refl n) (by unfold maxLen; omega) hcs htk).rowSl
    have hc := hr2.cut i n (by omega) (Nat.le_refl _)
    rw [cut_tail g n i n 2 hi, tsV_drop, List.take_of_length_le (by rw [hdl]; omega)] at hc
    obtain ⟨hl, a', c', hv, h2, h3, h4, h5⟩ := hc
    cases hv
    exact h5 _ rfl) (by intro h; cases h) (tsV_one _) (by rw [hdl]; simp [hl2]; omega)
  have h3 := St.spl h2.drew ((i + 1) * 2) (tsV (l.drop i))
  have hfin := St.mkRow (size := 2) (n := n + 1) (cap := gc) (xs := tsV (insP i x l)) h3 (by omega) hgm (by rw [List.size_toArray, spl_len (by rw [hdl]; simp [hl2]; omega)]; simp [hl2]) (by
    show (spl sp.toArray.toList ((i + 1) * 2) _).take _ = _
    rw [spl_take (by rw [hdl]; omega) (by simp [hl2]; omega), insP_V]
    show sp.take _ ++ _ = _
    rw [ht2, List.append_assoc])
  generalize hw3 : w2.drew.setRow B _ = w3 at hC2 hfin
  have hne : ((i : Int) == (n : Int)) = false := by rw [beq_eq_false_iff_ne]; omega
  have hsub : ((n : Int) + 1 - (i : Int)) = ((n + 1 - i : Nat) : Int) := by omega
  clear hold hrowi hti hsl hrow hbt hbb hl2 ht2 hsp hdl hbig hge hgm hxl htk hw1 hw2 hw3 h1 h2 h3 hz2 hz1 hz0 hi0 h hBg hB
  go_enter Try.func28, Try.ntmps28
  go_wp2_with (at_builtin; first | refine wpList_append_run rfl (.tmp 34) (.tmp 39) 56 3 rfl hA ?_ | refine wpList_copy_run rfl (.tmp 43) (.tmp 44) 56 56 rfl (hC1 _) ?_)
  refine wp_region_canon [0, 1, 2, 5, 6, 7, 3, 4, 8] (by kernel_rfl) (by kernel_rfl) ?_
  simp only [pickOps, nthOp]
  go_wp2_with (at_builtin; refine wpList_copy_run rfl (.tmp 50) (.tmp 53) 56 56 rfl (hC2 _) ?_)
  simp only [Only]
  go_wp2
  go_ret
  exact ⟨_, rfl, hfin.swap.right.swap.right⟩

theorem ov_false {W w : World} {R : Asn} {vb g : Nat} {x : κ × Int} {cur : Array Value} {o lb cb : Nat} (h : St W w (star (pt vb (.cells (tE x).toArray 61 (0, 0))) (star (pt g (.cells cur 61 (0, 0))) R))) (hc : cur.size ≠ 0) :
    (callFunc 40 #[.slice (some ⟨vb, 0, none⟩) 1 1, .slice (some ⟨g, o, none⟩) lb cb]).run Try.prog w = .ok (.value (.bool false)) w := by
  rw [run_callFunc_extern Try.func40 (by kernel_rfl) (by kernel_rfl) (by kernel_rfl) (e := Extern.SlicesOverlaps.overlaps #[56, 56] #[4]) (by kernel_rfl),
    Lib.run_overlaps_apart w 56 4 61 Try.underlying56 2 Try.sizeOf61 ⟨vb, 0, none⟩ ⟨g, o, none⟩ 1 1 lb cb (St.ne h) _ _ 2 cur.size (by unfold World.shape?; rw [h.blk]; rfl) (by unfold World.shape?; rw [h.swap.blk]) hc (h.free 0) (h.free 2)]
  rfl

set_option maxRecDepth 100000 in
set_option maxHeartbeats 8000000 in
theorem Insert_room (g cap : Nat) (cur : Array Value) (l : List (κ × Int)) (n : Nat) (hn : l.length = n) (hn1 : n ≤ 1000000) (i : Nat) (hi : i < n) (hcap : n + 1 ≤ cap) (hcm : cap ≤ maxLen) (hcs : cur.size = cap * 2) (htk : cur.toList.take (n * 2) = tsV l) (x : κ × Int) (vb : Nat) {W w : World} {R : Asn}
    (h : St W w (star (pt vb (.cells (tE x).toArray 61 (0, 0))) (star (pt g (.cells cur 61 (0, 0))) R))) :
    Calls Try.prog 28 #[.slice (some ⟨g, 0, none⟩) n cap, .int .i64 i, .slice (some ⟨vb, 0, none⟩) 1 1] w (NPost W (n + 1) (tsV (insP i x l)) R) := by
  have U := Try.underlying56
  have hcm2 : cap ≤ 9223372036854775807 := by simpa [maxLen] using hcm
  have hs0 := run_cut_l' (P := Try.prog) 56 61 2 U infoT (some ⟨g, 0, none⟩) n cap (i : Int) i rfl (by omega)
  rw [cut_tail g cap i n 2 (by omega)] at hs0
  have hs1 := run_head (P := Try.prog) 56 61 2 U infoT g n cap (n + 1) (by omega) ((n : Int) + 1) (by omega)
  have hs2 := run_cut_l' (P := Try.prog) 56 61 2 U infoT (some ⟨g, 0, none⟩) (n + 1) cap ((i : Int) + 1) (i + 1) (by omega) (by omega)
  rw [cut_tail g cap (i + 1) (n + 1) 2 (by omega), show n + 1 - (i + 1) = n - i from by omega] at hs2
  have hs3 := run_cut_l' (P := Try.prog) 56 61 2 U infoT (some ⟨g, 0, none⟩) (n + 1) cap (i : Int) i rfl (by omega)
  rw [cut_tail g cap i (n + 1) 2 (by omega)] at hs3
  have hov := ov_false (o := (i + 1) * 2) (lb := n - i) (cb := cap - (i + 1)) h (by omega)
  have hdl : (tsV (l.drop i)).length = (n - i) * 2 := by rw [tsV_length]; simp; omega
  have hC2 := fun ty => run_copy_spl (P := Try.prog) h.swap.drew 56 56 ty 61 2 U infoT ((i + 1) * 2) (n - i) (cap - (i + 1)) (some ⟨g, i * 2, none⟩) (n + 1 - i) (cap - i) (tsV (l.drop i)) (by rw [hdl, Nat.min_eq_right (by omega)]) (fun ad hd => by
    cases hd
    have hr2 := (St.mkRow (size := 2) (xs := tsV l) h.swap.drew (show n ≤ cap by omega) hcm hcs htk).rowSl
    have hc := hr2.cut i n (by omega) (Nat.le_refl _)
    rw [cut_tail g cap i n 2 (by omega), tsV_drop, List.take_of_length_le (by rw [hdl]; omega)] at hc
    obtain ⟨hl, a', c', hv, h2, h3, h4, h5⟩ := hc
    cases hv
    exact h5 _ rfl) (by intro h; cases h) (tsV_one _) (by rw [hdl]; omega)
  rw [show min (n + 1 - i) (n - i) = n - i from by omega] at hC2
  have h2 := St.spl h.swap.drew ((i + 1) * 2) (tsV (l.drop i))
  have hl2 : (spl cur.toList ((i + 1) * 2) (tsV (l.drop i))).length = cap * 2 := by rw [spl_len (by rw [hdl]; simp; omega)]; simp [hcs]
  have hti : cur.toList.take (i * 2) = tsV (l.take i) := by
    have : cur.toList.take (i * 2) = (cur.toList.take (n * 2)).take (i * 2) := by rw [List.take_take]; congr 1; omega
    rw [this, htk, tsV_take]
  have hti2 : (spl cur.toList ((i + 1) * 2) (tsV (l.drop i))).take (i * 2) = tsV (l.take i) := by rw [spl_take_le (by omega) (by simp; omega), hti]
  have htd : ((spl cur.toList ((i + 1) * 2) (tsV (l.drop i))).drop ((i + 1) * 2)).take ((n - i) * 2) = tsV (l.drop i) := by
    unfold spl
    have : (cur.toList.take ((i + 1) * 2)).length = (i + 1) * 2 := by simp; omega
    rw [List.append_assoc, List.drop_left' this, ← hdl, List.take_left]
  generalize hsp : spl cur.toList ((i + 1) * 2) (tsV (l.drop i)) = sp at *
  generalize hw1 : w.drew.setRow g sp.toArray = w1 at *
  have hxl : (tE x).length = 2 := rfl
  have hC1 := fun ty => run_copy_spl (P := Try.prog) h2 56 56 ty 61 2 U infoT (i * 2) (n + 1 - i) (cap - i) (some ⟨vb, 0, none⟩) 1 1 (tE x) (by rw [hxl, Nat.min_eq_left (by omega)]) (fun ad hd => by
    cases hd
    obtain ⟨hl, a', c', hv, h2, h3, h4, h5⟩ := one_sl h2.swap
    cases hv
    exact h5 _ rfl) (by intro h; cases h) (tE_one x) (by rw [hxl]; simp [hl2]; omega)
  rw [show min 1 (n + 1 - i) = 1 from by omega] at hC1
  have h3 := St.spl h2 (i * 2) (tE x)
  have hfin := St.mkRow (size := 2) (n := n + 1) (cap := cap) (xs := tsV (insP i x l)) h3 (by omega) hcm (by rw [List.size_toArray, spl_len (by rw [hxl]; simp [hl2]; omega)]; simp [hl2]) (by
    show (spl sp.toArray.toList (i * 2) _).take _ = _
    show (spl sp (i * 2) _).take _ = _
    rw [insP_V]
    unfold spl
    rw [hti2, hxl, List.append_assoc, show (n + 1) * 2 = (tsV (l.take i)).length + ((tE x).length + (n - i) * 2) from by rw [tsV_length, hxl]; simp; omega, List.take_length_add_append, List.take_length_add_append, show i * 2 + 2 = (i + 1) * 2 from by omega, htd])
  have hne : ((i : Int) == (n : Int)) = false := by rw [beq_eq_false_iff_ne]; omega
  clear hw1 hti hti2 htd hl2 hsp hdl hxl htk h2 h3 h
  go_enter Try.func28, Try.ntmps28
  go_wp2_with fail
  refine wp_region_canon [0, 1, 2, 5, 6, 7, 3, 4, 8] (by kernel_rfl) (by kernel_rfl) ?_
  simp only [pickOps, nthOp]
  go_wp2_with (at_builtin; first | refine wpList_copy_run rfl (.tmp 73) (.tmp 76) 56 56 rfl (hC2 _) ?_ | refine wpList_copy_run rfl (.tmp 80) (.tmp 81) 56 56 rfl (hC1 _) ?_)
  simp only [Only]
  go_wp2_with (at_builtin; first | refine wpList_copy_run rfl (.tmp 73) (.tmp 76) 56 56 rfl (hC2 _) ?_ | refine wpList_copy_run rfl (.tmp 80) (.tmp 81) 56 56 rfl (hC1 _) ?_)
  go_ret
  exact ⟨_, rfl, hfin.swap.right⟩

end Go.Proofs.Ytedkkcbdhbbegaa.TmI4
