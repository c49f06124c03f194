import Derived.BigQuiet
import Derived.Test.YtcjlbimmplejjaaGreatDoorScA
namespace Go.Proofs.YtcjlbimmplejjaaGreatDoor.ScE
open Go Go.RowKit Go.Proofs Go.Proofs.YtcjlbimmplejjaaGreatDoor.Sep Go.Proofs.YtcjlbimmplejjaaGreatDoor.Reg Go.Proofs.YtcjlbimmplejjaaGreatDoor.Frame Go.Proofs.YtcjlbimmplejjaaGreatDoor.WdP Go.Proofs.YtcjlbimmplejjaaGreatDoor.WdT Go.Proofs.YtcjlbimmplejjaaGreatDoor.WdN Go.Proofs.YtcjlbimmplejjaaGreatDoor.ScP Go.Proofs.YtcjlbimmplejjaaGreatDoor.ScQ Go.Proofs.YtcjlbimmplejjaaGreatDoor.ScT Go.Proofs.YtcjlbimmplejjaaGreatDoor.ScA

def hexJ (c : UInt8) : Int := match hexI c with | some i => i | none => -1
theorem hexJ_all : ∀ n, n < 256 → Lib.indexByte [48, 49, 50, 51, 52, 53, 54, 55, 56, 57, 97, 98, 99, 100, 101, 102] (UInt8.ofNat n) = hexJ (UInt8.ofNat n) := by decide +kernel
theorem hexJ_eq (c : UInt8) : Lib.indexByte [48, 49, 50, 51, 52, 53, 54, 55, 56, 57, 97, 98, 99, 100, 101, 102] c = hexJ c := by
  have := hexJ_all c.toNat (by have := c.toNat_lt; omega)
  simpa using this
theorem four_all : ∀ n, n < 256 → n ≠ 110 → n ≠ 114 → n ≠ 34 → n ≠ 92 → Lib.indexByte [110, 114, 34, 92] (UInt8.ofNat n) = -1 := by decide +kernel
theorem four_eq (c : UInt8) (h1 : c ≠ 110) (h2 : c ≠ 114) (h3 : c ≠ 34) (h4 : c ≠ 92) : Lib.indexByte [110, 114, 34, 92] c = -1 := by
  have key : ∀ d : UInt8, c ≠ d → c.toNat ≠ d.toNat := fun d h e => h (UInt8.toNat_inj.1 e)
  have := four_all c.toNat (by have := c.toNat_lt; omega) (key 110 h1) (key 114 h2) (key 34 h3) (key 92 h4)
  simpa using this
theorem hexI_lt {c : UInt8} {x : Nat} (h : hexI c = some x) : x < 16 := by
  unfold hexI at h
  split at h
  · cases h; omega
  · split at h
    · cases h; omega
    · cases h
theorem u8_ret (z : Int) : Ending.returned (.int .u8 (z % 256)) = .returned (.int .u8 ((UInt8.ofNat (z % 256).toNat).toNat : Int)) := by
  have h1 := Int.emod_nonneg z (by decide : (256 : Int) ≠ 0)
  have h2 := Int.emod_lt_of_pos z (by decide : (0 : Int) < 256)
  have : ((UInt8.ofNat (z % 256).toNat).toNat : Int) = z % 256 := by simp; omega
  rw [this]
theorem or_all : ∀ x, x < 16 → ∀ y, y < 16 → Go.bits BinOp.or .i64 (((x : Nat) : Int) * 16) ((y : Nat) : Int) = ((16 * x + y : Nat) : Int) := by decide +kernel
theorem or_ret {x y : Nat} (hx : x < 16) (hy : y < 16) : Ending.returned (.int .u8 (Go.bits BinOp.or .i64 ((x : Int) * 16) (y : Int) % 256)) = .returned (.int .u8 ((UInt8.ofNat (16 * x + y)).toNat : Int)) := by
  rw [or_all x hx y hy]
  have : ((UInt8.ofNat (16 * x + y)).toNat : Int) = ((16 * x + y : Nat) : Int) % 256 := by simp
  rw [this]
theorem esc_hex (a b : UInt8) (q : Tx) : esc (120 :: a :: b :: q) = (match hexI a, hexI b with | some x, some y => some (UInt8.ofNat (16 * x + y), q) | _, _ => none) := rfl
theorem esc_no {c : UInt8} (r : Tx) (h1 : c ≠ 110) (h2 : c ≠ 114) (h3 : c ≠ 34) (h4 : c ≠ 92) (h5 : c ≠ 120) : esc (c :: r) = none := by
  unfold esc
  simp only
  rw [if_neg h1, if_neg h2, if_neg h3, if_neg h4, if_neg h5]
theorem IB_any (s : ByteArray) (c : UInt8) (v : Int) (hv : Lib.indexByte s.data.toList c = v) (w : World) : Calls Tryz.prog 31 #[.string s, .int .u8 c.toNat] w (Same w (.int .i64 v)) :=
  (Tryz.strings_IndexByte s c.toNat w).mono fun e w' ⟨h1, h2⟩ => ⟨by rw [h1, ← hv]; simp, h2⟩

def EPst (W : World) (R : Asn) (rb : Nat) (s : Tx) (ok : Bool) (e : Ending) (w' : World) : Prop :=
  (∃ (c : UInt8) (r : Tx), esc s = some (c, r) ∧ e = .returned (.int .u8 c.toNat) ∧ St W w' (star (pt rb (.cells #[.string ⟨r.toArray⟩, .bool ok] 91 (0, 0))) R)) ∨
  (esc s = none ∧ ∃ (c : UInt8) (r : Tx), e = .returned (.int .u8 c.toNat) ∧ r.length ≤ s.length ∧ St W w' (star (pt rb (.cells #[.string ⟨r.toArray⟩, .bool false] 91 (0, 0))) R))
set_option maxRecDepth 100000 in
set_option maxHeartbeats 4000000 in
theorem escape_any {W w : World} {R : Asn} (rb : Nat) (s : Tx) (ok : Bool) (hs : s.length ≤ 1000000) (h : St W w (star (pt rb (.cells #[.string ⟨s.toArray⟩, .bool ok] 91 (0, 0))) R)) :
    Calls Tryz.prog 91 #[.pointer (some ⟨rb, 0, none⟩)] w (EPst W R rb s ok) := by
  cases s with
  | nil =>
    have c0 := h.cell 0 (v := .string ⟨([] : Tx).toArray⟩) rfl
    have f1 := h.free 1
    have k1 := h.cell 1 (v := .bool ok) rfl
    have H1 : Hid (St W (w.setCell ⟨rb, 1, none⟩ (.bool false)) (star (pt rb (.cells #[.string ⟨(([] : Tx)).toArray⟩, .bool false] 91 (0, 0))) R)) := Lib.hid (h.setCell 1 (.bool false))
    have HI := Lib.hid fun w => IB_any ⟨#[110, 114, 34, 92]⟩ 0 (-1) (by decide) w
    clear h
    go_enter Tryz.func91, Tryz.ntmps91
    go_wp2_with fail
    refine (HI.out _).mono ?_
    rintro e w1 ⟨rfl, rfl⟩
    go_wp2
    go_ret
    exact .inr ⟨rfl, 0, [], rfl, by simp, H1.out⟩
  | cons c r =>
    have c0 := h.cell 0 (v := .string ⟨(c :: r).toArray⟩) rfl
    have f0 := h.free 0
    have hz : ((c :: r) == []) = false := rfl
    have hsz : 0 < (ByteArray.mk (c :: r).toArray).size := by simp [ByteArray.size]
    have hgt : (ByteArray.mk (c :: r).toArray)[0]'hsz = c := rfl
    have hext : (ByteArray.mk (c :: r).toArray).extract 1 (r.length + 1) = ByteArray.mk r.toArray := by rw [str_extract]; simp
    have h1 : St W (w.setCell ⟨rb, 0, none⟩ (.string ⟨r.toArray⟩)) (star (pt rb (.cells #[.string ⟨r.toArray⟩, .bool ok] 91 (0, 0))) R) := h.setCell 0 (.string ⟨r.toArray⟩)
    obtain ⟨w1, hw1⟩ : ∃ z, w.setCell ⟨rb, 0, none⟩ (.string ⟨r.toArray⟩) = z := ⟨_, rfl⟩
    rw [hw1] at h1
    clear h
    obtain ⟨v, hv⟩ : ∃ v, Lib.indexByte [110, 114, 34, 92] c = v := ⟨_, rfl⟩
    have HI := Lib.hid fun w => IB_any ⟨#[110, 114, 34, 92]⟩ c v hv w
    go_enter Tryz.func91, Tryz.ntmps91
    go_wp2_with fail
    refine (HI.out _).mono ?_
    rintro e w2 ⟨rfl, rfl⟩
    clear c0 f0 hz hext HI hgt
    clear hw1
    by_cases g1 : c = 110
    · subst g1
      obtain rfl : v = 0 := by rw [← hv]; decide
      clear hv
      have H1 := Lib.hid h1
      clear h1
      go_wp2
      go_ret
      exact .inl ⟨10, r, rfl, rfl, H1.out⟩
    by_cases g2 : c = 114
    · subst g2
      obtain rfl : v = 1 := by rw [← hv]; decide
      clear hv
      have H1 := Lib.hid h1
      clear h1
      go_wp2
      go_ret
      exact .inl ⟨13, r, rfl, rfl, H1.out⟩
    by_cases g3 : c = 34
    · subst g3
      obtain rfl : v = 2 := by rw [← hv]; decide
      clear hv
      have H1 := Lib.hid h1
      clear h1
      go_wp2
      go_ret
      exact .inl ⟨34, r, rfl, rfl, H1.out⟩
    by_cases g4 : c = 92
    · subst g4
      obtain rfl : v = 3 := by rw [← hv]; decide
      clear hv
      have H1 := Lib.hid h1
      clear h1
      go_wp2
      go_ret
      exact .inl ⟨92, r, rfl, rfl, H1.out⟩
    have hv1 := four_eq c g1 g2 g3 g4
    rw [hv] at hv1
    subst hv1
    clear hv
    have c0 := h1.cell 0 (v := .string ⟨r.toArray⟩) rfl
    have f1 := h1.free 1
    have k1 := h1.cell 1 (v := .bool ok) rfl
    have HF : Hid (St W (w2.setCell ⟨rb, 1, none⟩ (.bool false)) (star (pt rb (.cells #[.string ⟨r.toArray⟩, .bool false] 91 (0, 0))) R)) := Lib.hid (h1.setCell 1 (.bool false))
    by_cases g5 : c = 120
    · subst g5
      clear g1 g2 g3 g4
      match r with
      | [] =>
        have HE : Hid (esc [120] = none) := Lib.hid rfl
        clear h1
        go_wp2
        go_ret
        exact .inr ⟨HE.out, 0, [], rfl, by simp, HF.out⟩
      | [a] =>
        have HE : Hid (esc [120, a] = none) := Lib.hid rfl
        clear h1
        go_wp2
        go_ret
        exact .inr ⟨HE.out, 0, [a], rfl, by simp, HF.out⟩
      | a :: b :: q =>
        have HE := Lib.hid (esc_hex a b q)
        clear HF
        have HA := Lib.hid fun w => IB_any ⟨#[48, 49, 50, 51, 52, 53, 54, 55, 56, 57, 97, 98, 99, 100, 101, 102]⟩ a (hexJ a) (hexJ_eq a) w
        have HB := Lib.hid fun w => IB_any ⟨#[48, 49, 50, 51, 52, 53, 54, 55, 56, 57, 97, 98, 99, 100, 101, 102]⟩ b (hexJ b) (hexJ_eq b) w
        have hz0 : 0 < (ByteArray.mk (a :: b :: q).toArray).size := by simp [ByteArray.size]
        have hz1 : 1 < (ByteArray.mk (a :: b :: q).toArray).size := by simp [ByteArray.size]
        have hg0 : (ByteArray.mk (a :: b :: q).toArray)[0]'hz0 = a := rfl
        have hg1 : (ByteArray.mk (a :: b :: q).toArray)[1]'hz1 = b := rfl
        go_upto_region 11 with fail
        go_big_quiet (first | (go_at_call 31; exact (HA.out _).mono fun e w h => ⟨h.1, _, h.2⟩) | (go_at_call 31; exact (HB.out _).mono fun e w h => ⟨h.1, _, h.2⟩))
        generalize hw3 : w2.drewN _ = w3
        have h2 : St W w3 (star (pt rb (.cells #[.string ⟨(a :: b :: q).toArray⟩, .bool ok] 91 (0, 0))) R) := by rw [← hw3]; exact h1.drewN _
        clear h1 c0 f1 k1 hg0 hg1 hz0 hz1 HA HB hw3
        have c0 := h2.cell 0 (v := .string ⟨(a :: b :: q).toArray⟩) rfl
        have f0 := h2.free 0
        have hext : (ByteArray.mk (a :: b :: q).toArray).extract 2 (q.length + 1 + 1) = ByteArray.mk q.toArray := by rw [str_extract]; simp
        have h3 : St W (w3.setCell ⟨rb, 0, none⟩ (.string ⟨q.toArray⟩)) (star (pt rb (.cells #[.string ⟨q.toArray⟩, .bool ok] 91 (0, 0))) R) := h2.setCell 0 (.string ⟨q.toArray⟩)
        clear h2
        go_upto_region 13 with fail
        clear c0 f0 hext
        generalize w3.setCell ⟨rb, 0, none⟩ (.string ⟨q.toArray⟩) = w4 at *
        have f1 := h3.free 1
        have k1 := h3.cell 1 (v := .bool ok) rfl
        have H4 : Hid (∀ z : Bool, St W (w4.setCell ⟨rb, 1, none⟩ (.bool z)) (star (pt rb (.cells #[.string ⟨q.toArray⟩, .bool z] 91 (0, 0))) R)) := Lib.hid fun z => h3.setCell 1 (.bool z)
        clear h3
        cases ha : hexI a with
        | none =>
          have hu : hexJ a = -1 := by unfold hexJ; rw [ha]
          rw [hu]
          have HN : Hid (esc (120 :: a :: b :: q) = none) := Lib.hid (by rw [HE.out, ha])
          clear HE ha hu
          cases ok
          · go_wp2
            go_ret
            exact .inr ⟨HN.out, _, q, u8_ret _, by simp; omega, H4.out false⟩
          · go_wp2
            go_ret
            exact .inr ⟨HN.out, _, q, u8_ret _, by simp; omega, H4.out false⟩
        | some x =>
          have hu : hexJ a = x := by unfold hexJ; rw [ha]
          rw [hu]
          have hx := hexI_lt ha
          cases hb : hexI b with
          | none =>
            have ht : hexJ b = -1 := by unfold hexJ; rw [hb]
            rw [ht]
            have HN : Hid (esc (120 :: a :: b :: q) = none) := Lib.hid (by rw [HE.out, ha, hb])
            clear HE ha hb hu ht
            cases ok
            · go_wp2
              go_ret
              exact .inr ⟨HN.out, _, q, u8_ret _, by simp; omega, H4.out false⟩
            · go_wp2
              go_ret
              exact .inr ⟨HN.out, _, q, u8_ret _, by simp; omega, H4.out false⟩
          | some y =>
            have ht : hexJ b = y := by unfold hexJ; rw [hb]
            rw [ht]
            have hy := hexI_lt hb
            have HN : Hid (esc (120 :: a :: b :: q) = some (UInt8.ofNat (16 * x + y), q)) := Lib.hid (by rw [HE.out, ha, hb])
            clear HE ha hb hu ht
            cases ok
            · go_wp2
              go_ret
              exact .inl ⟨_, q, HN.out, or_ret hx hy, H4.out false⟩
            · go_wp2
              go_ret
              exact .inl ⟨_, q, HN.out, or_ret hx hy, H4.out true⟩
    · have hne : ((c.toNat : Int) != 120) = true := by
        rw [bne_iff_ne]
        intro e
        exact g5 (UInt8.toNat_inj.1 (by simpa using (by omega : c.toNat = 120)))
      have HN : Hid (esc (c :: r) = none) := Lib.hid (esc_no r g1 g2 g3 g4 g5)
      clear h1 g1 g2 g3 g4 g5
      go_wp2
      go_ret
      exact .inr ⟨HN.out, 0, r, rfl, by simp, HF.out⟩

end Go.Proofs.YtcjlbimmplejjaaGreatDoor.ScE
