import Derived.Test.YtcjlbimmplejjaaGreatDoorScV
import Derived.Test.YtcjlbimmplejjaaGreatDoorScH
namespace Go.Proofs.YtcjlbimmplejjaaGreatDoor.ScK
open Go Go.RowKit Go.Proofs Go.Proofs.YtcjlbimmplejjaaGreatDoor.Sep Go.Proofs.YtcjlbimmplejjaaGreatDoor.Reg Go.Proofs.YtcjlbimmplejjaaGreatDoor.Frame Go.Proofs.YtcjlbimmplejjaaGreatDoor.Mp Go.Proofs.YtcjlbimmplejjaaGreatDoor.WdP Go.Proofs.YtcjlbimmplejjaaGreatDoor.WdT Go.Proofs.YtcjlbimmplejjaaGreatDoor.WdN Go.Proofs.YtcjlbimmplejjaaGreatDoor.ScP Go.Proofs.YtcjlbimmplejjaaGreatDoor.ScQ Go.Proofs.YtcjlbimmplejjaaGreatDoor.ScT Go.Proofs.YtcjlbimmplejjaaGreatDoor.ScB Go.Proofs.YtcjlbimmplejjaaGreatDoor.ScA Go.Proofs.YtcjlbimmplejjaaGreatDoor.ScM Go.Proofs.YtcjlbimmplejjaaGreatDoor.ScS Go.Proofs.YtcjlbimmplejjaaGreatDoor.ScI Go.Proofs.YtcjlbimmplejjaaGreatDoor.ScJ Go.Proofs.YtcjlbimmplejjaaGreatDoor.ScW Go.Proofs.YtcjlbimmplejjaaGreatDoor.ScR Go.Proofs.YtcjlbimmplejjaaGreatDoor.ScO Go.Proofs.YtcjlbimmplejjaaGreatDoor.ScV Go.Proofs.YtcjlbimmplejjaaGreatDoor.ScH

/-- A list that agrees with another one up to i. -/
def LQ (W : World) (A B : List Ac) (i : Nat) (w : World) : Prop := A.take i = B.take i ∧ St W w emp
set_option maxRecDepth 100000 in
set_option maxHeartbeats 4000000 in
theorem like_any {W : World} (a : Option Addr) (n c : Nat) (A : List Ac) (hA : A.length = n) (hsA : Sl W 4 (.slice a n c) n (actsV A)) (a' : Option Addr) (n' c' : Nat) (B : List Ac) (hB : B.length = n') (hsB : Sl W 4 (.slice a' n' c') n' (actsV B)) :
    Calls Tryz.prog 11 #[.slice a n c, .slice a' n' c'] W fun e w' => e = .returned (.bool (decide (A = B))) ∧ Below W.heap.size W w' := by
  have hcap : n ≤ c ∧ c ≤ 9223372036854775807 := by obtain ⟨_, _, _, hv, h1, h2, _⟩ := hsA; cases hv; exact ⟨h1, by simpa [maxLen] using h2⟩
  have hcap' : n' ≤ c' ∧ c' ≤ 9223372036854775807 := by obtain ⟨_, _, _, hv, h1, h2, _⟩ := hsB; cases hv; exact ⟨h1, by simpa [maxLen] using h2⟩
  have HA := Lib.hid hA
  have HB := Lib.hid hB
  have HSA := Lib.hid hsA
  have HSB := Lib.hid hsB
  have h0 : St W W emp := St.start W
  clear hA hB hsA hsB
  by_cases hne : n = n'
  · subst hne
    go_enter Tryz.func11, Tryz.ntmps11
    go_wp2_with fail
    go_loopw [5] (fun iv wr => ∃ i : Nat, i ≤ n ∧ iv = .int .i64 i ∧ LQ W A B i wr) (fun iv _ => n - (intOf iv).toNat)
    case atStart => exact ⟨0, Nat.zero_le _, rfl, rfl, h0⟩
    case round =>
      obtain ⟨i, hi, rfl, hL, hS⟩ := hrel
      have HL := Lib.hid hL
      clear h0 hL
      by_cases hin : i < n
      · have hinI : (i : Int) < n := by omega
        obtain ⟨x, hx⟩ : ∃ x, A[i]? = some x := ⟨_, List.getElem?_eq_getElem (by rw [HA.out]; exact hin)⟩
        obtain ⟨y, hy⟩ : ∃ y, B[i]? = some y := ⟨_, List.getElem?_eq_getElem (by rw [HB.out]; exact hin)⟩
        obtain ⟨ab, ao, rfl, ⟨a0, a1, a2, a3⟩, -⟩ := act_at (sl_past HSA.out hS) hx
        obtain ⟨bb, bo, rfl, ⟨b0, b1, b2, b3⟩, -⟩ := act_at (sl_past HSB.out hS) hy
        have HX := Lib.hid hx
        have HY := Lib.hid hy
        have heq := eqA x y
        have HDE : Hid (decide (x = y) = decide (x = y)) := Lib.hid rfl
        obtain ⟨q, hq⟩ : ∃ b, decide (x = y) = b := ⟨_, rfl⟩
        rw [hq] at heq
        have HQ := Lib.hid hq
        have HS := Lib.hid hS
        clear hx hy hq hS HDE
        go_upto_region 6 with fail
        cases q with
        | true =>
          have HN : Hid (LQ W A B (i + 1) wr.drew) := Lib.hid ⟨by rw [List.take_add_one, List.take_add_one, HX.out, HY.out, HL.out, of_decide_eq_true HQ.out], HS.out.drew⟩
          go_big_region
          clear a0 a1 a2 a3 b0 b1 b2 b3
          go_wp2_with fail
          exact ⟨⟨i + 1, hin, by go_num, HN.out⟩, by simp [intOf]; omega⟩
        | false =>
          have HN : Hid (decide (A = B) = false) := Lib.hid (decide_eq_false (by
            rintro rfl
            rw [HX.out] at HY
            cases HY
            have h5 := HQ.out
            simp at h5))
          have HB2 := Lib.hid HS.out.drew.below
          go_big_region
          go_wp2
          go_ret
          exact ⟨by rw [HN.out]; rfl, HB2.out⟩
      · obtain rfl : n = i := by omega
        have HN : Hid (decide (A = B) = true) := Lib.hid (decide_eq_true (by
          have h5 := HL.out
          rwa [List.take_of_length_le (by rw [HA.out]; exact Nat.le_refl _), List.take_of_length_le (by rw [HB.out]; exact Nat.le_refl _)] at h5))
        have HB2 := Lib.hid hS.below
        clear hS
        go_wp2
        go_ret
        exact ⟨by rw [HN.out]; rfl, HB2.out⟩
  · have hneI : ((n : Int) != (n' : Int)) = true := by rw [bne_iff_ne]; omega
    have HN : Hid (decide (A = B) = false) := Lib.hid (decide_eq_false (by rintro rfl; exact hne (HA.out.symm.trans HB.out)))
    have HB2 := Lib.hid h0.below
    clear h0 hne
    go_enter Tryz.func11, Tryz.ntmps11
    go_wp2
    go_ret
    exact ⟨by rw [HN.out]; rfl, HB2.out⟩

theorem aw1 : parseP [99, 111, 110, 110, 101, 99, 116, 10, 32, 98, 121, 116, 101, 115, 32, 48, 32, 34, 71, 69, 84, 32, 47, 92, 114, 92, 110, 34, 32, 32, 35, 32, 97, 115, 107, 10, 116, 105, 109, 101, 115, 32, 50, 10, 112, 105, 99, 107, 32, 53, 10, 101, 110, 100] = ([⟨1, 0, 0, []⟩, ⟨2, 0, 0, [71, 69, 84, 32, 47, 13, 10]⟩, ⟨7, 0, 5, []⟩, ⟨7, 0, 5, []⟩], 0, 0) := by decide +kernel
theorem aw2 : parseP [115, 116, 111, 112, 10, 101, 110, 100] = ([], 2, 8) := by decide +kernel
theorem aw3 : printP [⟨7, 0, 5, []⟩, ⟨7, 0, 5, []⟩, ⟨7, 0, 5, []⟩] = ([116, 105, 109, 101, 115, 32, 51, 10, 112, 105, 99, 107, 32, 53, 10, 101, 110, 100, 10], 0) := by decide +kernel
theorem aw4 : rightA ⟨7, 0, 5, []⟩ = true := by decide +kernel
theorem aw5 : quote [0] = [34, 92, 120, 48, 48, 34] := by decide +kernel
def pL : Ac := ⟨7, 0, 5, []⟩
set_option maxRecDepth 100000 in
set_option maxHeartbeats 4000000 in
theorem awake_any {W w : World} {R : Asn} (hG : Gl W) (hE : Er W) (h : St W w R) : Calls Tryz.prog 8 #[] w (Law W R) := by
  have HP1 := Lib.hid ((Parse_any hG hE [99, 111, 110, 110, 101, 99, 116, 10, 32, 98, 121, 116, 101, 115, 32, 48, 32, 34, 71, 69, 84, 32, 47, 92, 114, 92, 110, 34, 32, 32, 35, 32, 97, 115, 107, 10, 116, 105, 109, 101, 115, 32, 50, 10, 112, 105, 99, 107, 32, 53, 10, 101, 110, 100] (by decide) h).mono fun e w h => by unfold PPst at h; rw [aw1] at h; exact h)
  have HG := Lib.hid hG
  have HE := Lib.hid hE
  clear h hG hE
  go_enter Tryz.func8, Tryz.ntmps8
  go_wp2_with fail
  refine HP1.out.mono ?_
  rintro e w1 ⟨v1, rfl, h1⟩
  obtain ⟨a1, c1, rfl⟩ : ∃ a c, v1 = .slice a 4 c := by obtain ⟨_, a, c, hv, _⟩ := h1.rowSl; exact ⟨a, c, hv⟩
  have h2 := h1.alloc (.cells #[.int .u8 7, .int .i64 0, .int .i64 5, .string ⟨#[]⟩] 34 (0, 0))
  obtain ⟨pb, hpb⟩ : ∃ z, w1.heap.size = z := ⟨_, rfl⟩
  rw [hpb] at h2
  clear h1 HP1
  go_upto_region 3 with fail
  clear hpb
  generalize w1.alloc (.cells #[.int .u8 7, .int .i64 0, .int .i64 5, .string ⟨#[]⟩] 34 (0, 0)) = w2 at *
  have HP2 := Lib.hid ((Parse_any HG.out HE.out [115, 116, 111, 112, 10, 101, 110, 100] (by decide) h2).mono fun e w h => by unfold PPst at h; rw [aw2] at h; exact h)
  clear h2
  go_wp2_with fail
  refine HP2.out.mono ?_
  rintro e w3 ⟨v3, rfl, h3⟩
  have h4 := h3.right
  clear h3 HP2
  have k0 := h4.cell 0 (v := .int .u8 7) rfl
  have k1 := h4.cell 1 (v := .int .i64 0) rfl
  have k2 := h4.cell 2 (v := .int .i64 5) rfl
  have k3 := h4.cell 3 (v := .string ⟨#[]⟩) rfl
  have h5 := h4.alloc (.cells #[.int .u8 7, .int .i64 0, .int .i64 5, .string ⟨#[]⟩, .int .u8 7, .int .i64 0, .int .i64 5, .string ⟨#[]⟩, .int .u8 7, .int .i64 0, .int .i64 5, .string ⟨#[]⟩] 34 (0, 0))
  obtain ⟨lb, hlb⟩ : ∃ z, w3.heap.size = z := ⟨_, rfl⟩
  rw [hlb] at h5
  have h6 := St.mkRow (size := 4) (n := 3) (cap := 3) (xs := actsV [⟨7, 0, 5, []⟩, ⟨7, 0, 5, []⟩, ⟨7, 0, 5, []⟩]) h5 (Nat.le_refl _) (by unfold maxLen; omega) rfl rfl
  have hGw := HG.out.st h6
  have HPr := Lib.hid ((Print_any hGw (some ⟨lb, 0, none⟩) 3 3 [⟨7, 0, 5, []⟩, ⟨7, 0, 5, []⟩, ⟨7, 0, 5, []⟩] rfl (by intro x hx; simp at hx; subst hx; exact ⟨⟨by decide, by decide⟩, ⟨by decide, by decide⟩, by decide⟩) h6.rowSl).mono fun e w h => by unfold ScV.NPst at h; rw [aw3] at h; exact h)
  clear h4 h5 hGw
  go_wp2_with fail
  refine HPr.out.mono ?_
  rintro e w5 ⟨rfl, hb⟩
  have h7 := (h6.past hb).right
  clear h6 HPr hb k0 k1 k2 k3 hlb
  have k0 := h7.cell 0 (v := .int .u8 7) rfl
  have k1 := h7.cell 1 (v := .int .i64 0) rfl
  have k2 := h7.cell 2 (v := .int .i64 5) rfl
  have k3 := h7.cell 3 (v := .string ⟨#[]⟩) rfl
  have h8 := h7.alloc (.cells #[.int .u8 1, .int .i64 0, .int .i64 0, .string ⟨#[]⟩, .int .u8 2, .int .i64 0, .int .i64 0, .string ⟨#[71, 69, 84, 32, 47, 13, 10]⟩, .int .u8 7, .int .i64 0, .int .i64 5, .string ⟨#[]⟩, .int .u8 7, .int .i64 0, .int .i64 5, .string ⟨#[]⟩] 34 (0, 0))
  obtain ⟨mb, hmb⟩ : ∃ z, w5.heap.size = z := ⟨_, rfl⟩
  rw [hmb] at h8
  have h9 := St.mkRow (size := 4) (n := 4) (cap := 4) (xs := actsV [⟨1, 0, 0, []⟩, ⟨2, 0, 0, [71, 69, 84, 32, 47, 13, 10]⟩, ⟨7, 0, 5, []⟩, ⟨7, 0, 5, []⟩]) h8 (Nat.le_refl _) (by unfold maxLen; omega) rfl rfl
  have HLk := Lib.hid (like_any a1 4 c1 [⟨1, 0, 0, []⟩, ⟨2, 0, 0, [71, 69, 84, 32, 47, 13, 10]⟩, ⟨7, 0, 5, []⟩, ⟨7, 0, 5, []⟩] rfl h9.right.right.rowSl (some ⟨mb, 0, none⟩) 4 4 [⟨1, 0, 0, []⟩, ⟨2, 0, 0, [71, 69, 84, 32, 47, 13, 10]⟩, ⟨7, 0, 5, []⟩, ⟨7, 0, 5, []⟩] rfl h9.rowSl)
  rw [show decide (([⟨1, 0, 0, []⟩, ⟨2, 0, 0, [71, 69, 84, 32, 47, 13, 10]⟩, ⟨7, 0, 5, []⟩, ⟨7, 0, 5, []⟩] : List Ac) = [⟨1, 0, 0, []⟩, ⟨2, 0, 0, [71, 69, 84, 32, 47, 13, 10]⟩, ⟨7, 0, 5, []⟩, ⟨7, 0, 5, []⟩]) = true from decide_eq_true rfl] at HLk
  clear h7 h8
  go_wp2_with fail
  refine HLk.out.mono ?_
  rintro e w6 ⟨rfl, hb⟩
  have h10 := (h9.past hb).right
  clear h9 HLk hb k0 k1 k2 k3 hmb
  have k0 := h10.cell 0 (v := .int .u8 7) rfl
  have k1 := h10.cell 1 (v := .int .i64 0) rfl
  have k2 := h10.cell 2 (v := .int .i64 5) rfl
  have k3 := h10.cell 3 (v := .string ⟨#[]⟩) rfl
  have HRi := Lib.hid (Right_any HG.out ⟨7, 0, 5, []⟩ ⟨⟨by decide, by decide⟩, ⟨by decide, by decide⟩, by decide⟩ h10)
  rw [aw4] at HRi
  clear h10
  go_wp2_with fail
  refine HRi.out.mono ?_
  rintro e w7 ⟨rfl, h11⟩
  have HQu := Lib.hid (Quote_any [0] (by decide) h11)
  rw [aw5] at HQu
  clear h11 HRi k0 k1 k2 k3
  go_wp2_with fail
  refine HQu.out.mono ?_
  rintro e w8 ⟨rfl, h12⟩
  have H12 := Lib.hid h12.right.right
  clear h12 HQu
  go_wp2
  go_ret
  exact ⟨rfl, H12.out⟩
end Go.Proofs.YtcjlbimmplejjaaGreatDoor.ScK
