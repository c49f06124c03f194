import Derived.Test.YtcjlbimmplejjaaGreatDoorScR
namespace Go.Proofs.YtcjlbimmplejjaaGreatDoor.ScO
open Go Go.RowKit Go.Proofs Go.Proofs.YtcjlbimmplejjaaGreatDoor.Sep Go.Proofs.YtcjlbimmplejjaaGreatDoor.Reg Go.Proofs.YtcjlbimmplejjaaGreatDoor.Frame Go.Proofs.YtcjlbimmplejjaaGreatDoor.Mp Go.Proofs.YtcjlbimmplejjaaGreatDoor.WdP Go.Proofs.YtcjlbimmplejjaaGreatDoor.WdT Go.Proofs.YtcjlbimmplejjaaGreatDoor.WdN Go.Proofs.YtcjlbimmplejjaaGreatDoor.ScP Go.Proofs.YtcjlbimmplejjaaGreatDoor.ScQ Go.Proofs.YtcjlbimmplejjaaGreatDoor.ScT Go.Proofs.YtcjlbimmplejjaaGreatDoor.ScB Go.Proofs.YtcjlbimmplejjaaGreatDoor.ScA Go.Proofs.YtcjlbimmplejjaaGreatDoor.ScM Go.Proofs.YtcjlbimmplejjaaGreatDoor.ScS Go.Proofs.YtcjlbimmplejjaaGreatDoor.ScJ Go.Proofs.YtcjlbimmplejjaaGreatDoor.ScW Go.Proofs.YtcjlbimmplejjaaGreatDoor.ScR Go.Proofs.YtcjlbimmplejjaaGreatDoor.Held

set_option maxRecDepth 100000 in
theorem print1_any {W w : World} {R : Asn} (hG : Gl W) (b4 mb : Nat) (x : Ac) (hx : OkA x) (h : St W w (star (pt b4 (.cells #[.map (some mb)] 49 (0, 0))) (star (Mp kS mb shM) (R)))) :
    Calls Tryz.prog 33 #[.agg #[.int .u8 (x.k : Nat), .int .i64 x.c, .int .i64 x.n, .string ⟨x.s.toArray⟩], .pointer (some ⟨b4, 0, none⟩)] w fun e w' => e = .returned (.bool (!rightA x)) ∧ St W w' (star (pt b4 (.cells #[.map (some mb)] 49 (0, 0))) (star (Mp kS mb shM) (R))) := by
  have h1 := h.alloc (.cells #[.int .u8 (x.k : Nat), .int .i64 x.c, .int .i64 x.n, .string ⟨x.s.toArray⟩] 34 (0, 0))
  obtain ⟨xb, hxb⟩ : ∃ z, w.heap.size = z := ⟨_, rfl⟩
  rw [hxb] at h1
  clear h
  go_enter Tryz.func33, Tryz.ntmps33
  go_upto_region 1 with fail
  clear hxb
  generalize w.alloc (.cells #[.int .u8 (x.k : Nat), .int .i64 x.c, .int .i64 x.n, .string ⟨x.s.toArray⟩] 34 (0, 0)) = w1 at *
  have c0 := h1.cell 0 (v := .int .u8 (x.k : Nat)) rfl
  have c1 := h1.cell 1 (v := .int .i64 x.c) rfl
  have c2 := h1.cell 2 (v := .int .i64 x.n) rfl
  have c3 := h1.cell 3 (v := .string ⟨x.s.toArray⟩) rfl
  have d0 := h1.right.cell 0 (v := .map (some mb)) rfl
  have HW := Lib.hid (write_any hG mb x hx (h1.right.eq (B := star (Mp kS mb shM) (star (pt b4 (.cells #[.map (some mb)] 49 (0, 0))) (R))) (by ac_rfl)))
  clear h1
  go_wp2_with fail
  refine HW.out.mono ?_
  rintro e w2 ⟨v, rfl, -, h2⟩
  have H2 := Lib.hid (h2.eq (B := star (pt b4 (.cells #[.map (some mb)] 49 (0, 0))) (star (Mp kS mb shM) (R))) (by ac_rfl))
  obtain ⟨b, hb⟩ : ∃ b, rightA x = b := ⟨_, rfl⟩
  rw [hb]
  have HB := Lib.hid hb
  clear h2 HW hb
  go_wp2
  go_ret
  exact ⟨by rw [HB.out]; rfl, H2.out⟩
def XB (xb : Nat) (x : Ac) (w : World) : Prop := w.cell? ⟨xb, 0, none⟩ = some (.int .u8 (x.k : Nat)) ∧ w.cell? ⟨xb, 1, none⟩ = some (.int .i64 x.c) ∧ w.cell? ⟨xb, 2, none⟩ = some (.int .i64 x.n) ∧ w.cell? ⟨xb, 3, none⟩ = some (.string ⟨x.s.toArray⟩)
def trR : Tr := .held 1 (.one 0 (.one 2 (.plain 3 (.plain 4 (.plain 5 (.plain 6 (.plain 7 .done)))))))
set_option maxRecDepth 100000 in
theorem Right_any {W w : World} {R : Asn} (hG : Gl W) (x : Ac) (hx : OkA x) (h : St W w R) : Calls Tryz.prog 13 #[.agg #[.int .u8 (x.k : Nat), .int .i64 x.c, .int .i64 x.n, .string ⟨x.s.toArray⟩]] w (RPst W (.bool (rightA x)) R) := by
  have h1 := h.alloc (.cells #[.int .u8 (x.k : Nat), .int .i64 x.c, .int .i64 x.n, .string ⟨x.s.toArray⟩] 34 (0, 0))
  obtain ⟨xb, hxb⟩ : ∃ z, w.heap.size = z := ⟨_, rfl⟩
  rw [hxb] at h1
  have HG := Lib.hid hG
  have HX := Lib.hid hx
  clear h hG hx
  go_enter Tryz.func13, Tryz.ntmps13
  go_upto_region 1 with fail
  clear hxb
  generalize w.alloc (.cells #[.int .u8 (x.k : Nat), .int .i64 x.c, .int .i64 x.n, .string ⟨x.s.toArray⟩] 34 (0, 0)) = w1 at *
  have HC : Hid (∀ w A, St W w (star (pt xb (.cells #[.int .u8 (x.k : Nat), .int .i64 x.c, .int .i64 x.n, .string ⟨x.s.toArray⟩] 34 (0, 0))) A) → XB xb x w) := Lib.hid fun w A h => ⟨h.cell 0 rfl, h.cell 1 rfl, h.cell 2 rfl, h.cell 3 rfl⟩
  have hd := h1.drew
  clear h1
  refine Go.Proofs.YtcjlbimmplejjaaGreatDoor.Held.wp_region_held (XB xb x) [] trR (by kernel_rfl) (by kernel_rfl) (HC.out _ _ hd) ?_
  generalize w1.drew = w2 at *
  unfold trR
  refine tr_held (.agg #[.int .u8 (x.k : Nat), .int .i64 x.c, .int .i64 x.n, .string ⟨x.s.toArray⟩]) rfl ?_ (by simp only [nthOp, Act.put, List.setIfInBounds_toArray, List.set_cons_succ, List.set_cons_zero]; rfl) ?_
  · (rintro w' ⟨hc0, hc1, hc2, hc3⟩; simp only [nthOp]; go_simp)
  have HSh := Lib.hid (shapes_any hd)
  clear hd
  refine tr_one ?_
  simp only [nthOp]
  go_wp2_with fail
  refine HSh.out.mono ?_
  rintro e w3 ⟨rfl, h3⟩
  obtain ⟨mb, hmb⟩ : ∃ z, w2.heap.size = z := ⟨_, rfl⟩
  rw [hmb] at h3 ⊢
  clear HSh hmb
  go_wp2_with fail
  simp only [Reg.Next]
  refine ⟨fun _ => HC.out _ _ h3.right, ?_⟩
  have HW := Lib.hid (write_any HG.out mb x HX.out h3)
  clear h3
  refine tr_one ?_
  simp only [nthOp]
  go_wp2_with fail
  refine HW.out.mono ?_
  rintro e w4 ⟨v, rfl, -, h4⟩
  obtain ⟨b, hb⟩ : ∃ b, rightA x = b := ⟨_, rfl⟩
  rw [hb]
  have H4 := Lib.hid h4.right.right
  have HB := Lib.hid hb
  have hcx := HC.out _ _ h4.right
  clear h4 HW hb
  go_wp2_with fail
  simp only [Reg.Next]
  refine ⟨fun _ => hcx, ?_⟩
  refine tr_plain (.tuple #[.string ⟨v.toArray⟩, .bool b]) rfl ?_ (by simp only [nthOp, Act.put, List.setIfInBounds_toArray, List.set_cons_succ, List.set_cons_zero]; rfl) ?_
  · exact fun _ => rfl
  refine tr_plain (.string ⟨v.toArray⟩) rfl ?_ (by simp only [nthOp, Act.put, List.setIfInBounds_toArray, List.set_cons_succ, List.set_cons_zero]; rfl) ?_
  · (intro w'; simp only [nthOp]; go_simp)
  refine tr_plain (.bool b) rfl ?_ (by simp only [nthOp, Act.put, List.setIfInBounds_toArray, List.set_cons_succ, List.set_cons_zero]; rfl) ?_
  · (intro w'; simp only [nthOp]; go_simp)
  refine tr_plain (.string ⟨v.toArray⟩) rfl ?_ (by simp only [nthOp, Act.put, List.setIfInBounds_toArray, List.set_cons_succ, List.set_cons_zero]; rfl) ?_
  · exact fun _ => rfl
  refine tr_plain (.bool b) rfl ?_ (by simp only [nthOp, Act.put, List.setIfInBounds_toArray, List.set_cons_succ, List.set_cons_zero]; rfl) ?_
  · exact fun _ => rfl
  refine tr_done ?_
  go_wp2
  go_ret
  exact ⟨by rw [HB.out]; rfl, H4.out⟩
theorem run_idx {y : Ac} {r : List Ac} {v : Int} (h : IdxR (fun x => !decide (x = y)) (y :: r) v) : (v < 0 ∧ runP (y :: r) = min 1000 (r.length + 1)) ∨ (∃ i : Nat, v = i ∧ runP (y :: r) = min 1000 i) := by
  have hall : ∀ (r : List Ac), (∀ z ∈ r, z = y) → (r.takeWhile (· == y)).length = r.length := by
    intro r hr
    induction r with
    | nil => rfl
    | cons z r ih =>
      have hz : (z == y) = true := by simpa using hr z (by simp)
      rw [List.takeWhile_cons, hz]
      simp only [if_true, List.length_cons]
      rw [ih fun a ha => hr a (by simp [ha])]
  have hat : ∀ (r : List Ac) (i : Nat) (x : Ac), r[i]? = some x → x ≠ y → (∀ j, j < i → ∀ z, r[j]? = some z → z = y) → (r.takeWhile (· == y)).length = i := by
    intro r
    induction r with
    | nil => intro i x h; simp at h
    | cons z r ih =>
      intro i x h1 h2 h3
      cases i with
      | zero =>
        simp at h1; subst h1
        have : (z == y) = false := by simpa using h2
        rw [List.takeWhile_cons, this]; rfl
      | succ i =>
        have hz : (z == y) = true := by simpa using h3 0 (by omega) z rfl
        rw [List.takeWhile_cons, hz]
        simp only [if_true, List.length_cons]
        rw [ih i x (by simpa using h1) h2 fun j hj a ha => h3 (j + 1) (by omega) a (by simpa using ha)]
  rcases h with ⟨i, x, h1, h2, h3, rfl⟩ | ⟨h1, rfl⟩
  · right
    refine ⟨i, rfl, ?_⟩
    cases i with
    | zero => simp at h1; subst h1; simp at h2
    | succ i =>
      have := hat r i x (by simpa using h1) (by simpa using h2) fun j hj z hz => by simpa using h3 (j + 1) (by omega) z (by simpa using hz)
      simp only [runP]
      rw [this]
  · left
    refine ⟨by omega, ?_⟩
    have := hall r fun z hz => by simpa using h1 z (by simp [hz])
    simp only [runP]
    rw [this]
set_option maxRecDepth 100000 in
theorem run_any {W w : World} {R : Asn} (a : Option Addr) (n c : Nat) (y : Ac) (r : List Ac) (hln : r.length + 1 = n) (hn : n ≤ 1000000) (hsl : Sl W 4 (.slice a n c) n (actsV (y :: r))) (h : St W w R) :
    Calls Tryz.prog 35 #[.slice a n c] w (RPst W (.int .i64 (runP (y :: r) : Nat)) R) := by
  obtain ⟨ab, ao, rfl, ha, -⟩ := act_at hsl (i := 0) (x := y) rfl
  rw [Nat.zero_mul, Nat.add_zero] at ha
  have h1 := h.alloc (.cells #[.slice (some ⟨ab, ao, none⟩) n c] 23 (0, 0))
  obtain ⟨b4, hb4⟩ : ∃ z, w.heap.size = z := ⟨_, rfl⟩
  rw [hb4] at h1
  have hact : ∀ w', St W w' (star (pt b4 (.cells #[.slice (some ⟨ab, ao, none⟩) n c] 23 (0, 0))) R) → ActAt ab ao y w' := fun w' h => by
    obtain ⟨ab2, ao2, e, h2, -⟩ := act_at (sl_past hsl h) (i := 0) (x := y) rfl
    cases e
    rwa [Nat.zero_mul, Nat.add_zero] at h2
  have HI := Lib.hid fun w1 (h : St W w1 (star (pt b4 (.cells #[.slice (some ⟨ab, ao, none⟩) n c] 23 (0, 0))) R)) => Index_run (fun x => !decide (x = y)) b4 (some ⟨ab, ao, none⟩) n c (y :: r) hln hsl h fun x _ w' h' => run1_any x y b4 ab ao n c (by omega) h' (hact w' h')
  have hmf : ∀ (fn : Fn) (first cap : Array Value) (w : World), (Instr.makeFunc fn first cap).run Tryz.prog w = .ok (.func fn first cap) w := fun _ _ _ _ => rfl
  have HLN := Lib.hid hln
  clear h ha hsl hact hln
  go_enter Tryz.func35, Tryz.ntmps35
  go_upto_region 1 with fail
  clear hb4
  generalize w.alloc (.cells #[.slice (some ⟨ab, ao, none⟩) n c] 23 (0, 0)) = w1 at *
  have d0 := h1.cell 0 (v := .slice (some ⟨ab, ao, none⟩) n c) rfl
  have HI1 := Lib.hid (HI.out _ h1)
  clear h1 HI
  go_wp2_with fail
  refine HI1.out.mono ?_
  rintro e w2 ⟨v, rfl, hv, h2⟩
  have d2 := h2.cell 0 (v := .slice (some ⟨ab, ao, none⟩) n c) rfl
  have H2 := Lib.hid h2.right
  have hr := run_idx hv
  clear d0 hv h2 HI1 hmf
  rcases hr with ⟨hneg, hr⟩ | ⟨i, rfl, hr⟩
  · have HR : Hid (((runP (y :: r) : Nat) : Int) = min (n : Int) 1000) := Lib.hid (by rw [hr, HLN.out]; omega)
    clear hr
    go_wp2
    go_ret
    refine ⟨?_, H2.out⟩
    rw [HR.out]
    rfl
  · have HR : Hid (((runP (y :: r) : Nat) : Int) = min (i : Int) 1000) := Lib.hid (by rw [hr]; omega)
    clear hr
    go_wp2
    go_ret
    refine ⟨?_, H2.out⟩
    rw [HR.out]
    rfl
end Go.Proofs.YtcjlbimmplejjaaGreatDoor.ScO
