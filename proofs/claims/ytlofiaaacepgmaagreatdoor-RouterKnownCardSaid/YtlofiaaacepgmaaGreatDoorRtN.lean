import Derived.Test.YtlofiaaacepgmaaGreatDoorRtZ
namespace Go.Proofs.YtlofiaaacepgmaaGreatDoor.RtN
open Go Go.RowKit Go.Proofs Go.Proofs.YtlofiaaacepgmaaGreatDoor.Sep Go.Proofs.YtlofiaaacepgmaaGreatDoor.Reg Go.Proofs.YtlofiaaacepgmaaGreatDoor.Frame Go.Proofs.YtlofiaaacepgmaaGreatDoor.Strs Go.Proofs.YtlofiaaacepgmaaGreatDoor.Mp Go.Proofs.YtlofiaaacepgmaaGreatDoor.TrP Go.Proofs.YtlofiaaacepgmaaGreatDoor.TrQ Go.Proofs.YtlofiaaacepgmaaGreatDoor.RtP Go.Proofs.YtlofiaaacepgmaaGreatDoor.RtQ Go.Proofs.YtlofiaaacepgmaaGreatDoor.RtA Go.Proofs.YtlofiaaacepgmaaGreatDoor.RtC Go.Proofs.YtlofiaaacepgmaaGreatDoor.RtV Go.Proofs.YtlofiaaacepgmaaGreatDoor.RtW Go.Proofs.YtlofiaaacepgmaaGreatDoor.RtX Go.Proofs.YtlofiaaacepgmaaGreatDoor.RtG

theorem path_max {W : World} (h : TrS.MaxLen W) : PathT.MaxLen W := h
set_option maxRecDepth 100000 in
set_option maxHeartbeats 8000000 in
theorem nobody_any {W : World} (hm : TrS.MaxLen W) (x : ReqC.T) (_ : ReqC.Ok x) : Calls Tryz.prog 3 #[.agg (ReqC.E x).toArray] W (Law W emp) := by
  have HM := Lib.hid hm
  obtain ⟨xm, xp, xq, xv, fa, fn, fc, xb, xc⟩ := x
  have h1 := (St.start W).alloc (.cells #[kS xm, kS xp, kS xq, .int .i64 xv, .slice fa fn fc, kS xb, .bool xc] 24 (0, 0))
  have HGr := Lib.hid fun w => Great_any none 0 0 [] rfl w (Sl.nil w 4) ⟨xm, xp, xq, xv, fa, fn, fc, xb, xc⟩
  have HSn := Lib.hid fun w => Serve_nil w xm xp xq xv fa fn fc xb xc
  have HW : Hid (∀ w A, St W w A → _) := Lib.hid fun w A h => wakes_any (R := A) HM.out (path_max HM.out) h
  clear hm
  show Calls Tryz.prog 3 #[.agg #[kS xm, kS xp, kS xq, .int .i64 xv, .slice fa fn fc, kS xb, .bool xc]] W (Law W emp)
  obtain ⟨rb, hrb⟩ : ∃ z, W.heap.size = z := ⟨_, rfl⟩
  rw [hrb] at h1
  have c0 := h1.cell 0 (v := kS xm) rfl
  have c1 := h1.cell 1 (v := kS xp) rfl
  have c2 := h1.cell 2 (v := kS xq) rfl
  have c3 := h1.cell 3 (v := .int .i64 xv) rfl
  have c4 := h1.cell 4 (v := .slice fa fn fc) rfl
  have c5 := h1.cell 5 (v := kS xb) rfl
  have c6 := h1.cell 6 (v := .bool xc) rfl
  go_enter Tryz.func3, Tryz.ntmps3
  go_wp2_with fail
  clear hrb
  generalize W.alloc (.cells #[kS xm, kS xp, kS xq, .int .i64 xv, .slice fa fn fc, kS xb, .bool xc] 24 (0, 0)) = w1 at *
  refine (HGr.out _).mono ?_
  rintro e w2 ⟨gb, hq, -⟩
  have h2 := h1.makes hq
  obtain ⟨rfl, -⟩ := hq
  clear HGr h1 c0 c1 c2 c3 c4 c5 c6
  cases gb with
  | true =>
    have HW2 := Lib.hid (HW.out _ _ h2)
    go_wp2_with fail
    refine HW2.out.mono ?_
    rintro e w3 ⟨rfl, h3⟩
    go_wp2
    go_ret
    exact ⟨rfl, h3.right⟩
  | false =>
    have c0 := h2.cell 0 (v := kS xm) rfl
    have c1 := h2.cell 1 (v := kS xp) rfl
    have c2 := h2.cell 2 (v := kS xq) rfl
    have c3 := h2.cell 3 (v := .int .i64 xv) rfl
    have c4 := h2.cell 4 (v := .slice fa fn fc) rfl
    have c5 := h2.cell 5 (v := kS xb) rfl
    have c6 := h2.cell 6 (v := .bool xc) rfl
    go_wp2_with fail
    refine (HSn.out _).mono ?_
    rintro e w3 hq3
    have h3 := h2.makes hq3
    obtain ⟨rfl, -⟩ := hq3
    have h4 := h3.alloc (.cells #[.int .i64 404, .slice none 0 0, .string ⟨#[110, 111, 116, 32, 102, 111, 117, 110, 100]⟩] 29 (0, 0))
    clear h2 c0 c1 c2 c3 c4 c5 c6 HSn
    have HS := Lib.hid fun w => Same_any w 404 none 0 0 [] tNot 404 none 0 0 [] tNot rfl rfl (by omega) (Sl.nil w 2) (Sl.nil w 2)
    go_wp2_with fail
    refine (HS.out _).mono ?_
    rintro e w5 hq5
    have h5 := h4.makes hq5
    obtain ⟨rfl, -⟩ := hq5
    clear HS h4 h3
    simp only [decide_true, Bool.and_self]
    go_wp2_with fail
    refine (Routes_nil _).mono ?_
    rintro e w6 hq6
    have h6 := h5.makes hq6
    obtain ⟨rfl, -⟩ := hq6
    have HW2 := Lib.hid (HW.out _ _ h6)
    go_wp2_with fail
    refine HW2.out.mono ?_
    rintro e w7 ⟨rfl, h7⟩
    go_wp2
    go_ret
    exact ⟨rfl, h7.right.right⟩
end Go.Proofs.YtlofiaaacepgmaaGreatDoor.RtN
