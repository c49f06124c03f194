import Derived.Test.YtdobgebdlbckoaaGreatDoorBkR
import Derived.Test.YtdobgebdlbckoaaGreatDoorShelf
namespace Go.Proofs.YtdobgebdlbckoaaGreatDoor.BkT
open Go Go.Sort Go.RowKit Go.Proofs Go.Proofs.YtdobgebdlbckoaaGreatDoor.Sep Go.Proofs.YtdobgebdlbckoaaGreatDoor.Reg Go.Proofs.YtdobgebdlbckoaaGreatDoor.Frame Go.Proofs.YtdobgebdlbckoaaGreatDoor.Rng Go.Proofs.YtdobgebdlbckoaaGreatDoor.RngA Go.Proofs.YtdobgebdlbckoaaGreatDoor.RngB Go.Proofs.YtdobgebdlbckoaaGreatDoor.Mp Go.Proofs.YtdobgebdlbckoaaGreatDoor.MpR Go.Proofs.YtdobgebdlbckoaaGreatDoor.Ms Go.Proofs.YtdobgebdlbckoaaGreatDoor.WdP Go.Proofs.YtdobgebdlbckoaaGreatDoor.WdN Go.Proofs.YtdobgebdlbckoaaGreatDoor.TpP Go.Proofs.YtdobgebdlbckoaaGreatDoor.TpA Go.Proofs.YtdobgebdlbckoaaGreatDoor.TpJ Go.Proofs.YtdobgebdlbckoaaGreatDoor.BkP Go.Proofs.YtdobgebdlbckoaaGreatDoor.BkA Go.Proofs.YtdobgebdlbckoaaGreatDoor.BkR
/-- A row whose elements were put in another order, by a writer of the shelf. -/
theorem St.sorted {W w : World} {e g n cap : Nat} {zs ys : List Int} {R : Asn} (hy : ys.length = n) (h : St W w (star (Row e 1 (.slice (some ⟨g, 0, none⟩) n cap) n (zs.map kI)) R)) (k : Nat) (os : Array Obj) :
    St W (grow (putRow (Value.int .i64) (Sort.ahead w k) g 0 ys.toArray) os) (star (Row e 1 (.slice (some ⟨g, 0, none⟩) n cap) n (ys.map kI)) R) := by
  obtain ⟨_, hv⟩ := h.row
  rcases hv with ⟨hv, _⟩ | ⟨g', cap', cur, hv, hnc, hcm, hcs, htake, hS⟩
  · cases hv
  · cases hv
    have hb := hS.blk
    have hlt := hS.lt
    refine St.mkRow (cur := putCells (Value.int .i64) 0 ys.toArray cur) (hS.turn rfl rfl rfl ?_ ?_ ?_) hnc hcm (by simp [putCells, hcs]) ?_
    · show w.heap.size ≤ ((w.heap.modify g _) ++ os).size
      simp
    · intro j hj hjg
      show ((w.heap.modify g _) ++ os)[j]? = _
      rw [Array.getElem?_append_left (by simpa using hj), Array.getElem?_modify, if_neg (Ne.symm hjg)]
    · show ((w.heap.modify g _) ++ os)[g]? = _
      rw [Array.getElem?_append_left (by simpa using hlt), Array.getElem?_modify, if_pos rfl, hb]
      rfl
    · refine List.ext_getElem (by simp [putCells, hcs, hy]; omega) fun i h1 h2 => ?_
      have hi : i < n := by simpa [hy] using h2
      have hi2 : i < ys.length := by omega
      simp only [putCells, List.getElem_take, Array.getElem_toList, Array.getElem_mapIdx, List.getElem_map]
      rw [if_pos ⟨Nat.zero_le _, by simp; omega⟩]
      rw [Nat.sub_zero, getElem!_pos ys.toArray i (by simpa using hi2)]
      simp [kI]
def SI (ob : Nat) (R : Asn) (pre : List Int) : Asn := star (Held ob 33 3 pre.length (pre.map kI)) R
def APst (W : World) (bm : Nat) (es : List (Int × Value)) (R : Asn) (e : Ending) (w' : World) : Prop :=
  ∃ L a c, Half es [] L ∧ e = .returned (.slice a L.length c) ∧ St W w' (star (Row 3 1 (.slice a L.length c) L.length (L.map kI)) (star (Mp kI bm es) R))
attribute [local go_sem] Oper.semAt_some
set_option maxRecDepth 100000 in
set_option maxHeartbeats 8000000 in
theorem AppSeq_any {W w : World} {R : Asn} (c1 bm : Nat) (es : List (Int × Value)) (hes : es.length ≤ 1000000) (h : St W w (star (pt c1 (.cells #[.map (some bm)] 58 (0, 0))) (star (Mp kI bm es) R))) :
    Calls Tryz.prog 81 #[.slice none 0 0, .func (.func 60) #[] #[.pointer (some ⟨c1, 0, none⟩)]] w (APst W bm es R) := by
  have h1 := h.alloc (.cells #[.slice none 0 0] 33)
  have HE := Lib.hid hes
  clear h hes
  refine (callsIn_wide (n := 3)).1 (callsIn_of_wp_marks Tryz.func81 rfl trivial ?_ rfl)
  simp only [Tryz.ntmps81, List.size_toArray, List.length_cons, List.length_nil, Nat.reduceAdd, Nat.reduceSub, Array.replicate_succ, Array.replicate_zero, List.push_toArray, List.append_toArray, List.nil_append, List.cons_append]
  gi_wp2_with fail
  obtain ⟨ob, hob⟩ : ∃ ob, w.heap.size = ob := ⟨_, rfl⟩
  have h2 : St W (w.alloc (.cells #[.slice none 0 0] 33)) (star (pt c1 (.cells #[.map (some bm)] 58 (0, 0))) (star (Mp kI bm es) (SI ob R []))) := by
    rw [hob] at h1
    have h3 := St.toHeld (h1.nilRow (e := 3) (size := 1)).swap
    unfold SI
    exact h3.eq (by show star (Held _ _ _ 0 []) _ = _; ac_rfl)
  rw [hob]
  clear h1
  generalize w.alloc (.cells #[.slice none 0 0] 33) = w1 at *
  refine range_keys (m := 1) (fun x t => (t.setIfInBounds 7 (.int .i64 x)).setIfInBounds 5 (.int .i64 x)) c1 bm es (SI ob R) rfl rfl h2 ?assign ?round ?done
  case assign =>
    rintro x l0 w5 K hK
    gi_wp2_with fail
    exact hK
  case round =>
    rintro pre k hpl l0 busy C w5 h5
    have hpl2 : pre.length < 2000000 := by have := HE.out; omega
    clear h2
    simp only [List.setIfInBounds_toArray, List.set_cons_succ, List.set_cons_zero]
    unfold SI at h5
    obtain ⟨ov, h6⟩ := St.held (R := star (pt l0 (.loop busy)) (star C R)) (h5.eq (by ac_rfl))
    obtain ⟨_, va, vk, rfl, _⟩ := _root_.id h6.right.rowSl
    have hob0 := h6.cell 0 rfl
    have h9 := h6.alloc (.cells #[.int .i64 k] 3)
    have h10 := (h9.right).eq (B := star (Row 3 1 (.slice va pre.length vk) pre.length (pre.map kI)) (star (pt ob (.cells #[.slice va pre.length vk] 33 (0, 0))) (star (pt l0 (.loop busy)) (star C R)))) (by ac_rfl)
    have hone : Sl (w5.alloc (.cells #[.int .i64 k] 3)) 1 (.slice (some ⟨w5.heap.size, 0, none⟩) 1 1) 1 [.int .i64 k] := (St.mkRow (size := 1) (n := 1) (cap := 1) (xs := [.int .i64 k]) h9 (Nat.le_refl _) (by unfold maxLen; omega) rfl rfl).rowSl
    obtain ⟨i0, hi0, hz0, hz1, hz2⟩ := info_parts infoI
    have U := Tryz.underlying33
    clear h5 h6 h9
    gi_wp2_with (gi_at_builtin; refine wpListIn_append_Sl rfl (.tmp 8) (.tmp 10) 33 rfl 3 i0 (.int .i64 0) 1 8 U hi0 hz0 hz1 hz2 rfl (.slice va pre.length vk) _ _ rfl h10 _ 1 [.int .i64 k] rfl hone (oneI [k]) (by unfold maxLen; omega) (by omega) ?_; intro v9 w9 hS9 hv9; obtain ⟨_, a9, c9, rfl, _⟩ := _root_.id hS9.rowSl; have hc9 := hS9.swap.cell 0 rfl; have hf9 := hS9.swap.free 0)
    have h11 := hS9.swap.setCell 0 (.slice a9 (pre.length + 1) c9)
    have el : (pre ++ [k]).length = pre.length + 1 := by simp
    have ev : (pre ++ [k]).map kI = pre.map kI ++ [.int .i64 k] := by simp
    show St W _ (star (pt l0 (.loop busy)) (star C (SI ob R (pre ++ [k]))))
    exact (St.toHeld h11).eq (by unfold SI; rw [el, ev]; ac_rfl)
  case done =>
    rintro L D w5 hL h5
    have HFIN := Lib.hid h5
    have HLL := Lib.hid hL
    clear h5 h2 hL
    have h6 := HFIN.out
    unfold SI at h6
    obtain ⟨ov, h7⟩ := St.held (R := star (pt D (.deferred (some []))) (star (pt c1 (.cells #[.map (some bm)] 58 (0, 0))) (star (Mp kI bm es) R))) (h6.eq (by ac_rfl))
    obtain ⟨_, oa, oc, rfl, _⟩ := _root_.id h7.right.rowSl
    have hob0 := h7.cell 0 rfl
    have h8 := h7.right.swap
    have hK := h8.blk
    clear h6 HFIN
    gi_wp2_with fail
    refine ⟨by simp, .inl ⟨_, _, rfl, run_takeDeferred hK, ?_⟩⟩
    have h10 := St.putObj h8 (.deferred none)
    refine ⟨.slice oa L.length oc, by simp [results, Tryz.results81, go_sem], ?_⟩
    have h11 := h10.right.swap.right
    exact ⟨L, oa, oc, HLL.out, rfl, h11.swap.eq (by ac_rfl)⟩
end Go.Proofs.YtdobgebdlbckoaaGreatDoor.BkT
