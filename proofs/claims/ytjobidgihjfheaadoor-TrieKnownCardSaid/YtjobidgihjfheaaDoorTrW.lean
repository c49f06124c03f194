import Derived.Test.YtjobidgihjfheaaDoorTrE
namespace Go.Proofs.YtjobidgihjfheaaDoor.TrW
open Go Go.RowKit Go.Proofs Go.Proofs.YtjobidgihjfheaaDoor.Sep Go.Proofs.YtjobidgihjfheaaDoor.Reg Go.Proofs.YtjobidgihjfheaaDoor.Frame Go.Proofs.YtjobidgihjfheaaDoor.Strs Go.Proofs.YtjobidgihjfheaaDoor.Mp Go.Proofs.YtjobidgihjfheaaDoor.TrP Go.Proofs.YtjobidgihjfheaaDoor.TrM Go.Proofs.YtjobidgihjfheaaDoor.TrC Go.Proofs.YtjobidgihjfheaaDoor.TrQ Go.Proofs.YtjobidgihjfheaaDoor.TrD Go.Proofs.YtjobidgihjfheaaDoor.TrS Go.Proofs.YtjobidgihjfheaaDoor.TrT

theorem fp_at {W w' : World} {tp : Nat} {max : Int} {es : EntsV} {path : List Tx} {R : Asn} {e : Ending} (h : FPost W tp max es path R e w') {p : Tx} {x : Value} {ps : List TrQ.Fd} (hf : findT es path = some (p, x, ps)) :
    ∃ a c, e = .returned (.tuple #[x, .slice a ps.length c, .string ⟨p.toArray⟩, .bool true]) ∧ St W w' (star (Row 33 2 (.slice a ps.length c) ps.length (fldV ps)) (star (IsT tp max es) R)) := by
  unfold FPost at h; rw [hf] at h; exact h
theorem fp_out {W w' : World} {tp : Nat} {max : Int} {es : EntsV} {path : List Tx} {R : Asn} {e : Ending} (h : FPost W tp max es path R e w') (hf : findT es path = none) :
    e = .returned (.tuple #[.int .i64 0, .slice none 0 0, .string ⟨#[]⟩, .bool false]) ∧ St W w' (star (IsT tp max es) R) := by
  unfold FPost at h; rw [hf] at h; exact h
def es1 : EntsV := [(keysOf [[97], [58, 120]], [47, 97, 47, 58, 120], .int .i64 2)]
def es2 : EntsV := [(keysOf [[97], [58, 120]], [47, 97, 47, 58, 120], .int .i64 2), (keysOf [[97], [98]], [47, 97, 47, 98], .int .i64 3)]
theorem a1 : addT ([] : EntsV) 9 [47, 97, 47, 58, 120] (.int .i64 2) = (0, es1) := by kernel_rfl
theorem a2 : addT es1 9 [47, 97, 47, 98] (.int .i64 3) = (0, es2) := by kernel_rfl
theorem a3 : addT es2 9 [47, 97, 47, 58, 121] (.int .i64 4) = (5, es2) := by kernel_rfl
theorem f1 : findT es2 [[97], [122]] = some ([47, 97, 47, 58, 120], .int .i64 2, [([120], [122])]) := by kernel_rfl
theorem f2 : findT es2 [[97], [98]] = some ([47, 97, 47, 98], .int .i64 3, []) := by kernel_rfl
theorem es2_len : ∀ e ∈ es2, e.2.1.length ≤ 1000000 := by
  intro e he
  simp only [es2, List.mem_cons, List.not_mem_nil, or_false] at he
  rcases he with rfl | rfl <;> simp
set_option maxRecDepth 100000 in
set_option maxHeartbeats 16000000 in
theorem wakes_any {W w : World} {R : Asn} (hm : MaxLen W) (h : St W w R) : Calls Tryd.prog 8 #[] w (Law W R) := by
  have HM := Lib.hid hm
  clear hm
  have HNw := Lib.hid (New_any 9 h)
  clear h
  go_enter Tryd.func8, Tryd.ntmps8
  go_wp2_with fail
  refine HNw.out.mono ?_
  rintro e w1 ⟨tp, rfl, h1⟩
  have HA := Lib.hid (Add_any tp 9 [] h1 (by simp) HM.out [47, 97, 47, 58, 120] (by simp) 2)
  rw [a1] at HA
  clear h1 HNw
  go_wp2_with fail
  refine HA.out.mono ?_
  rintro e w2 ⟨rfl, h2⟩
  have HA2 := Lib.hid (Add_any tp 9 es1 h2 (by simp [es1]) HM.out [47, 97, 47, 98] (by simp) 3)
  rw [a2] at HA2
  clear h2 HA
  go_wp2_with fail
  refine HA2.out.mono ?_
  rintro e w3 ⟨rfl, h3⟩
  have HA := Lib.hid (Add_any tp 9 es2 h3 (by simp [es2]) HM.out [47, 97, 47, 58, 121] (by simp) 4)
  rw [a3] at HA
  clear h3 HA2
  go_wp2_with fail
  refine HA.out.mono ?_
  rintro e w4 ⟨rfl, h4⟩
  have h5 := lit_sl h4 [[97], [122]] (by simp [maxLen])
  have HF := Lib.hid (Find_any tp 9 es2 (h5.swap) es2_len HM.out (some ⟨w4.heap.size, 0, none⟩) 2 2 [[97], [122]] h5.rowSl rfl (by omega) (by simp))
  clear h4 h5 HA
  go_wp2_with fail
  refine HF.out.mono ?_
  rintro e w5 hq
  obtain ⟨fa, fc, rfl, h6⟩ := fp_at hq f1
  clear hq HF
  have h7 := lit_sl h6.swap [[97], [98]] (by simp [maxLen])
  have HF := Lib.hid (Find_any tp 9 es2 (h7.swap) es2_len HM.out (some ⟨w5.heap.size, 0, none⟩) 2 2 [[97], [98]] h7.rowSl rfl (by omega) (by simp))
  clear h6 h7
  go_wp2_with fail
  refine HF.out.mono ?_
  rintro e w6 hq
  obtain ⟨ga, gc, rfl, h8⟩ := fp_at hq f2
  clear hq HF
  have hfl := (h8.eq (B := star (Row 33 2 (.slice fa 1 fc) 1 (fldV [([120], [122])])) (star (Row 33 2 (.slice ga 0 gc) 0 (fldV [])) (star (IsT tp 9 es2) (star (Row 9 1 (.slice (some ⟨w5.heap.size, 0, none⟩) 2 2) 2 (strsV [[97], [98]])) (star (Row 9 1 (.slice (some ⟨w4.heap.size, 0, none⟩) 2 2) 2 (strsV [[97], [122]])) R))))) (by show star _ (star _ (star _ (star (Row 33 2 (.slice fa 1 fc) 1 (fldV [([120], [122])])) _))) = _; ac_rfl))
  obtain ⟨xb, xo, rfl, x1, x2⟩ := elF hfl.rowSl (i := 0) (x := ([120], [122])) rfl
  simp only [Nat.zero_mul, Nat.add_zero] at x1 x2
  have h9 := hfl.right.right.right.right.right
  have hcap : 1 ≤ fc ∧ fc ≤ 9223372036854775807 := by obtain ⟨_, _, _, hv, h1, h2, _⟩ := hfl.rowSl; cases hv; exact ⟨h1, by simpa [maxLen] using h2⟩
  have HR1 := Lib.hid (Right_any [47] w6 (by simp) (HM.out.st h9))
  have HR2 : Hid (∀ w, St W w R → _) := Lib.hid fun w h => Right_any [97] w (by simp) (HM.out.st h)
  have s1 : (splitP [47]).isSome = true := by kernel_rfl
  have s2 : (splitP [97]).isSome = false := by kernel_rfl
  rw [s1] at HR1
  simp only [s2] at HR2
  clear s1 s2 h8 hfl
  have h9' := Lib.hid h9
  go_wp2_with fail
  refine HR1.out.mono ?_
  rintro e w7 hq
  have h10 := h9.makes hq
  obtain ⟨rfl, -⟩ := hq
  clear h9 x1 x2
  go_wp2_with fail
  refine (HR2.out _ h10).mono ?_
  rintro e w8 hq
  have h11 := h10.makes hq
  obtain ⟨rfl, -⟩ := hq
  go_wp2
  go_ret
  exact ⟨rfl, h11⟩
end Go.Proofs.YtjobidgihjfheaaDoor.TrW
