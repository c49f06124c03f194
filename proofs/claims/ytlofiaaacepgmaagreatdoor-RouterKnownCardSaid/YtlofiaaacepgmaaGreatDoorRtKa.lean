import Derived.Test.YtlofiaaacepgmaaGreatDoorRtN
import Derived.Test.YtlofiaaacepgmaaGreatDoorRtKp
namespace Go.Proofs.YtlofiaaacepgmaaGreatDoor.RtKa
open Go Go.RowKit Go.Proofs Go.Proofs.YtlofiaaacepgmaaGreatDoor.Sep Go.Proofs.YtlofiaaacepgmaaGreatDoor.Reg Go.Proofs.YtlofiaaacepgmaaGreatDoor.Frame Go.Proofs.YtlofiaaacepgmaaGreatDoor.Strs Go.Proofs.YtlofiaaacepgmaaGreatDoor.Mp Go.Proofs.YtlofiaaacepgmaaGreatDoor.TrP Go.Proofs.YtlofiaaacepgmaaGreatDoor.TrQ Go.Proofs.YtlofiaaacepgmaaGreatDoor.RtP Go.Proofs.YtlofiaaacepgmaaGreatDoor.RtQ Go.Proofs.YtlofiaaacepgmaaGreatDoor.RtA Go.Proofs.YtlofiaaacepgmaaGreatDoor.RtC Go.Proofs.YtlofiaaacepgmaaGreatDoor.RtB Go.Proofs.YtlofiaaacepgmaaGreatDoor.RtV Go.Proofs.YtlofiaaacepgmaaGreatDoor.RtW Go.Proofs.YtlofiaaacepgmaaGreatDoor.RtX Go.Proofs.YtlofiaaacepgmaaGreatDoor.RtG

set_option maxRecDepth 100000 in
set_option maxHeartbeats 8000000 in
theorem good_any {W w : World} {R : Asn} (c : Int) (s : ByteArray) (h : St W w R) : Calls Tryz.prog 14 #[.int .i64 c, .string s] w fun e w' => e = .returned (.agg #[.int .i64 c, .slice none 0 0, .string s]) ∧ St W w' R := by
  have hy := h.alloc (.cells #[.int .i64 c, .slice none 0 0, .string s] 29 (0, 0))
  have hf := hy.right
  obtain ⟨yb, hyb⟩ : ∃ z, w.heap.size = z := ⟨_, rfl⟩
  rw [hyb] at hy
  have k0 := hy.cell 0 (v := .int .i64 c) rfl
  have k1 := hy.cell 1 (v := .slice none 0 0) rfl
  have k2 := hy.cell 2 (v := .string s) rfl
  clear hy h
  go_enter Tryz.func14, Tryz.ntmps14
  go_wp2
  exact bodyPost_ret (v := .agg #[.int .i64 c, .slice none 0 0, .string s]) (by simp [results, Tryz.results14, go_sem, k0, k1, k2]) rfl ⟨rfl, hf⟩
set_option maxRecDepth 100000 in
set_option maxHeartbeats 8000000 in
theorem no_any {W w : World} {R : Asn} (t : Tx) (s : ByteArray) (hs : s = ⟨t.toArray⟩) (h : St W w R) : Calls Tryz.prog 15 #[.string s] w fun e w' => ∃ a, e = .returned (.agg #[.int .i64 405, .slice (some ⟨a, 0, none⟩) 1 1, .string ⟨#[110, 111, 32, 115, 117, 99, 104, 32, 109, 101, 116, 104, 111, 100]⟩]) ∧ St W w' (star (Row 43 2 (.slice (some ⟨a, 0, none⟩) 1 1) 1 (fldV [(tAllow, t)])) R) := by
  subst hs
  have h0 := h.alloc (.cells #[.int .i64 0, .slice none 0 0, .string ⟨#[]⟩] 29 (0, 0))
  obtain ⟨yb, hyb⟩ : ∃ z, w.heap.size = z := ⟨_, rfl⟩
  rw [hyb] at h0
  have h1 := h0.alloc (.cells #[.string ⟨#[65, 108, 108, 111, 119]⟩, kS t] 43 (0, 0))
  obtain ⟨ab, hab⟩ : ∃ z, (w.alloc (.cells #[.int .i64 0, .slice none 0 0, .string ⟨#[]⟩] 29 (0, 0))).heap.size = z := ⟨_, rfl⟩
  rw [hab] at h1
  have hy := h1.swap
  have k0 := hy.cell 0 (v := .int .i64 0) rfl
  have k1 := hy.cell 1 (v := .slice none 0 0) rfl
  have k2 := hy.cell 2 (v := .string ⟨#[]⟩) rfl
  have g0 := hy.free 0
  have g1 := hy.free 1
  have g2 := hy.free 2
  have hfA := hy.setCell 0 (.int .i64 405)
  have hfB := hfA.setCell 1 (.slice (some ⟨ab, 0, none⟩) 1 1)
  have hf := hfB.setCell 2 (.string ⟨#[110, 111, 32, 115, 117, 99, 104, 32, 109, 101, 116, 104, 111, 100]⟩)
  clear hy h h0 h1
  go_enter Tryz.func15, Tryz.ntmps15
  go_wp2
  have j2 := hf.cell 2 (v := .string ⟨#[110, 111, 32, 115, 117, 99, 104, 32, 109, 101, 116, 104, 111, 100]⟩) rfl
  have i0 := hfA.cell 0 (v := .int .i64 405) rfl
  have i1 := hfB.cell 1 (v := .slice (some ⟨ab, 0, none⟩) 1 1) rfl
  exact bodyPost_ret (v := .agg #[.int .i64 405, .slice (some ⟨ab, 0, none⟩) 1 1, .string ⟨#[110, 111, 32, 115, 117, 99, 104, 32, 109, 101, 116, 104, 111, 100]⟩]) (by simp [results, Tryz.results15, go_sem, j2, i0, i1]) rfl ⟨ab, rfl, St.mkRow (size := 2) (n := 1) (cap := 1) (xs := fldV [(tAllow, t)]) hf.right (Nat.le_refl _) (by unfold maxLen; omega) rfl rfl⟩
end Go.Proofs.YtlofiaaacepgmaaGreatDoor.RtKa
