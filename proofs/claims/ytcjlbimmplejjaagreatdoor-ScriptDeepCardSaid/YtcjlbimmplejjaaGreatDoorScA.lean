import Derived.Test.YtcjlbimmplejjaaGreatDoorWdN
import Derived.Test.YtcjlbimmplejjaaGreatDoorScT
namespace Go.Proofs.YtcjlbimmplejjaaGreatDoor.ScA
open Go Go.RowKit Go.Proofs Go.Proofs.YtcjlbimmplejjaaGreatDoor.Sep Go.Proofs.YtcjlbimmplejjaaGreatDoor.Reg Go.Proofs.YtcjlbimmplejjaaGreatDoor.Frame Go.Proofs.YtcjlbimmplejjaaGreatDoor.WdP Go.Proofs.YtcjlbimmplejjaaGreatDoor.WdT Go.Proofs.YtcjlbimmplejjaaGreatDoor.WdN Go.Proofs.YtcjlbimmplejjaaGreatDoor.ScP Go.Proofs.YtcjlbimmplejjaaGreatDoor.ScQ Go.Proofs.YtcjlbimmplejjaaGreatDoor.ScT

/-- A call that hands nothing back. -/
def VPst (W : World) (A : Asn) (e : Ending) (w' : World) : Prop := e = .returned (.tuple #[]) ∧ St W w' A
/-- A call that hands v back. -/
def RPst (W : World) (v : Value) (A : Asn) (e : Ending) (w' : World) : Prop := e = .returned v ∧ St W w' A
theorem isPre (c : UInt8) (s : Tx) : Lib.hasPrefix s [c] = decide (s.head? = some c) := by
  cases s with
  | nil => rfl
  | cons b s =>
    by_cases h : b = c
    · subst h; simp [Lib.hasPrefix, List.isPrefixOf]
    · have h2 : (c == b) = false := by simpa using fun e => h e.symm
      simp [Lib.hasPrefix, List.isPrefixOf, h2, h]
theorem HasPrefix_any (c : UInt8) (s : Tx) (b : Bool) (hb : decide (s.head? = some c) = b) (w : World) : Calls Tryz.prog 42 #[.string ⟨s.toArray⟩, .string ⟨#[c]⟩] w (Same w (.bool b)) :=
  (Tryz.strings_HasPrefix ⟨s.toArray⟩ ⟨#[c]⟩ w).mono fun e w' ⟨h1, h2⟩ => ⟨by rw [h1, ← hb]; exact congrArg _ (congrArg _ (isPre c s)), h2⟩
theorem TrimLeft_any (s d : Tx) (hd : s.dropWhile (· == 32) = d) (w : World) : Calls Tryz.prog 86 #[.string ⟨s.toArray⟩, .string ⟨#[32]⟩] w (Same w (.string ⟨d.toArray⟩)) :=
  (Tryz.strings_TrimLeft_one ⟨s.toArray⟩ 32 (by decide) w).mono fun e w' ⟨h1, h2⟩ => ⟨by rw [h1, ← hd]; rfl, h2⟩

set_option maxRecDepth 100000 in
theorem blanks_any {W w : World} {R : Asn} (rb : Nat) (s : Tx) (ok : Bool) (h : St W w (star (pt rb (.cells #[.string ⟨s.toArray⟩, .bool ok] 91 (0, 0))) R)) :
    Calls Tryz.prog 67 #[.pointer (some ⟨rb, 0, none⟩)] w (VPst W (star (pt rb (.cells #[.string ⟨((bl s)).toArray⟩, .bool ok] 91 (0, 0))) R)) := by
  obtain ⟨d, hd⟩ : ∃ d, s.dropWhile (· == 32) = d := ⟨_, rfl⟩
  have HT := Lib.hid fun w => TrimLeft_any s d hd w
  have hbl : bl s = if d.head? = some 35 then [] else d := by rw [← hd]; rfl
  obtain ⟨b, hb⟩ : ∃ b, decide (d.head? = some 35) = b := ⟨_, rfl⟩
  have HP := Lib.hid fun w => HasPrefix_any 35 d b hb w
  have c0 := h.cell 0 (v := .string ⟨s.toArray⟩) rfl
  have f0 := h.free 0
  have h1 : St W (w.setCell ⟨rb, 0, none⟩ (.string ⟨d.toArray⟩)) (star (pt rb (.cells #[.string ⟨d.toArray⟩, .bool ok] 91 (0, 0))) R) := h.setCell 0 (.string ⟨d.toArray⟩)
  have g0 := h1.cell 0 (v := .string ⟨d.toArray⟩) rfl
  have f1 := h1.free 0
  cases b with
  | true =>
    have HB : Hid (bl s = []) := Lib.hid (by rw [hbl, if_pos (of_decide_eq_true hb)])
    have H2 : Hid (St W ((w.setCell ⟨rb, 0, none⟩ (.string ⟨d.toArray⟩)).setCell ⟨rb, 0, none⟩ (.string ⟨#[]⟩)) (star (pt rb (.cells #[.string ⟨(([] : Tx)).toArray⟩, .bool ok] 91 (0, 0))) R)) := Lib.hid (h1.setCell 0 (.string ⟨#[]⟩))
    clear h h1 hd hbl hb
    go_enter Tryz.func67, Tryz.ntmps67
    go_wp2_with fail
    refine (HT.out _).mono ?_
    rintro e w1 ⟨rfl, rfl⟩
    go_wp2_with fail
    refine (HP.out _).mono ?_
    rintro e w2 ⟨rfl, rfl⟩
    go_wp2
    go_end0
    exact ⟨rfl, by rw [HB.out]; exact H2.out⟩
  | false =>
    have HB : Hid (bl s = d) := Lib.hid (by rw [hbl, if_neg (of_decide_eq_false hb)])
    have H1 := Lib.hid h1
    clear h h1 hd hbl hb
    go_enter Tryz.func67, Tryz.ntmps67
    go_wp2_with fail
    refine (HT.out _).mono ?_
    rintro e w1 ⟨rfl, rfl⟩
    go_wp2_with fail
    refine (HP.out _).mono ?_
    rintro e w2 ⟨rfl, rfl⟩
    go_wp2
    go_end0
    exact ⟨rfl, by rw [HB.out]; exact H1.out⟩
theorem cutB_wd (z : Tx) : ∃ r k, cutB z = (z.takeWhile (· != 32), r, k) := by
  rcases cutB_cases z with ⟨x, r, rfl, hx, he⟩ | ⟨hx, he⟩
  · rw [he, (take_ne (y := 32 :: r) hx (.inr rfl)).1]; exact ⟨_, _, rfl⟩
  · have := (take_ne (y := []) hx (.inl rfl)).1
    rw [List.append_nil] at this
    rw [he, this]; exact ⟨_, _, rfl⟩
theorem wd_drop (s : Tx) : (bl s).drop (wd s).length = rs s := by
  have h := List.takeWhile_append_dropWhile (p := (· != 32)) (l := bl s)
  have h2 : (bl s).drop (wd s).length = (((bl s).takeWhile (· != 32)) ++ (bl s).dropWhile (· != 32)).drop ((bl s).takeWhile (· != 32)).length := by rw [h]; rfl
  rw [h2, List.drop_left]; rfl
theorem wd_le (s : Tx) : (wd s).length ≤ (bl s).length := by
  have h := congrArg List.length (List.takeWhile_append_dropWhile (p := (· != 32)) (l := bl s))
  rw [List.length_append] at h
  show ((bl s).takeWhile (· != 32)).length ≤ _; omega
theorem bl_le (s : Tx) : (bl s).length ≤ s.length := by
  have h := congrArg List.length (List.takeWhile_append_dropWhile (p := (· == 32)) (l := s))
  rw [List.length_append] at h
  unfold bl
  split
  · simp
  · omega
theorem rs_le (s : Tx) : (rs s).length ≤ s.length := by
  have := bl_le s
  rw [← wd_drop, List.length_drop]; omega
set_option maxRecDepth 100000 in
theorem word_any {W w : World} {R : Asn} (hG : Gl W) (rb : Nat) (s : Tx) (ok : Bool) (hs : s.length ≤ 1000000) (h : St W w (star (pt rb (.cells #[.string ⟨s.toArray⟩, .bool ok] 91 (0, 0))) R)) :
    Calls Tryz.prog 46 #[.pointer (some ⟨rb, 0, none⟩)] w (RPst W (.string ⟨(wd s).toArray⟩) (star (pt rb (.cells #[.string ⟨(rs s).toArray⟩, .bool ok] 91 (0, 0))) R)) := by
  have HB := Lib.hid (blanks_any rb s ok h)
  have hl := bl_le s
  have hw := wd_le s
  obtain ⟨z, hz⟩ : ∃ z, bl s = z := ⟨_, rfl⟩
  obtain ⟨a, ha⟩ : ∃ a, wd s = a := ⟨_, rfl⟩
  obtain ⟨y, hy⟩ : ∃ y, rs s = y := ⟨_, rfl⟩
  obtain ⟨r, k, hc⟩ := cutB_wd z
  have hd := wd_drop s
  have ha2 : z.takeWhile (· != 32) = a := by rw [← hz, ← ha]; rfl
  rw [ha2] at hc
  rw [hz] at hl hw HB
  rw [ha] at hw ⊢
  rw [hz, ha] at hd
  rw [hy] at hd ⊢
  have HC := Lib.hid fun w hG => cut_any hc w hG (by omega)
  have hext : (ByteArray.mk z.toArray).extract a.length z.length = ByteArray.mk y.toArray := by rw [str_extract, List.take_of_length_le (by rw [List.length_drop]; exact Nat.le_refl _), hd]
  have HG := Lib.hid hG
  clear h hz ha hy hc hd ha2 hG
  go_enter Tryz.func46, Tryz.ntmps46
  go_wp2_with fail
  refine HB.out.mono ?_
  rintro e w1 ⟨rfl, h1⟩
  have c0 := h1.cell 0 (v := .string ⟨z.toArray⟩) rfl
  have f0 := h1.free 0
  have H1 := Lib.hid h1
  have H2 : Hid (∀ n, St W ((w1.drewN n).setCell ⟨rb, 0, none⟩ (.string ⟨y.toArray⟩)) (star (pt rb (.cells #[.string ⟨y.toArray⟩, .bool ok] 91 (0, 0))) R)) := Lib.hid fun n => (h1.drewN n).setCell 0 (.string ⟨y.toArray⟩)
  have hGw := HG.out.st h1
  clear h1 HB
  go_wp2_with fail
  refine (HC.out _ hGw).mono ?_
  rintro e w2 ⟨rfl, n, rfl⟩
  clear hGw
  go_wp2
  go_ret
  exact ⟨rfl, H2.out n⟩

def NPst (W : World) (R : Asn) (rb : Nat) (s : Tx) (most : Nat) (ok : Bool) (e : Ending) (w' : World) : Prop :=
  ∃ (v : Int) (b : Bool), e = .returned (.int .i64 v) ∧ St W w' (star (pt rb (.cells #[.string ⟨(rs s).toArray⟩, .bool b] 91 (0, 0))) R) ∧ ((∃ n : Nat, numM most (wd s) = some n ∧ v = n ∧ b = ok) ∨ (numM most (wd s) = none ∧ b = false))
theorem numM_none {most : Nat} {a : Tx} (h : num a = none) : numM most a = none := by unfold numM; rw [h]; rfl
theorem numM_big {most : Nat} {a : Tx} {v : Int} (h : Lib.atoiAll a = .ok v) (hv : (most : Int) < v) : numM most a = none := by
  unfold numM
  have hn := num_atoi a
  rw [h] at hn
  simp only at hn
  split at hn
  · rw [hn]
    simp only [Option.bind_some]
    rw [if_neg (by omega)]
  · rw [hn]; rfl
set_option maxRecDepth 100000 in
set_option maxHeartbeats 1000000 in
theorem number_any {W w : World} {R : Asn} (hG : Gl W) (hE : Er W) (rb : Nat) (s : Tx) (ok : Bool) (most : Nat) (hm : most ≤ 2147483647) (hs : s.length ≤ 1000000) (h : St W w (star (pt rb (.cells #[.string ⟨s.toArray⟩, .bool ok] 91 (0, 0))) R)) :
    Calls Tryz.prog 47 #[.pointer (some ⟨rb, 0, none⟩), .int .i64 (most : Nat)] w (NPst W R rb s most ok) := by
  have HW := Lib.hid (word_any hG rb s ok hs h)
  have hl := bl_le s
  have hw := wd_le s
  have HNN := Lib.hid (@numM_none most (wd s))
  have HNB : Hid (∀ v : Int, Lib.atoiAll (wd s) = .ok v → (most : Int) < v → numM most (wd s) = none) := Lib.hid fun v h1 h2 => numM_big h1 h2
  have hna := num_atoi (wd s)
  obtain ⟨a, ha⟩ : ∃ a, wd s = a := ⟨_, rfl⟩
  obtain ⟨y, hy⟩ : ∃ y, rs s = y := ⟨_, rfl⟩
  have HA := Lib.hid ha
  have HY := Lib.hid hy
  rw [ha, hy] at HW
  rw [ha] at hw HNN HNB hna
  have hal : a.length ≤ 1000000 := by omega
  have HAt := Lib.hid fun w hG => Atoi_any a w hG hal
  have HG := Lib.hid hG
  have HE := Lib.hid hE
  clear h ha hy hG hE hl hw
  unfold NPst
  rw [HA.out, HY.out]
  go_enter Tryz.func47, Tryz.ntmps47
  go_wp2_with fail
  refine HW.out.mono ?_
  rintro e w1 ⟨rfl, h1⟩
  have hEw := HE.out.st h1
  clear HW
  go_wp2_with fail
  refine (HAt.out _ hEw).mono ?_
  rintro e w2 ⟨hbel, hc⟩
  have h2 := h1.past hbel
  clear h1 hEw hbel HAt
  have f1 := h2.free 1
  have k1 := h2.cell 1 (v := .bool ok) rfl
  have H3 : Hid (St W (w2.setCell ⟨rb, 1, none⟩ (.bool false)) (star (pt rb (.cells #[.string ⟨y.toArray⟩, .bool false] 91 (0, 0))) R)) := Lib.hid (h2.setCell 1 (.bool false))
  have H2 := Lib.hid h2
  clear h2
  rcases hc with ⟨v, hv, rfl⟩ | ⟨hn, v, t, q, rfl⟩
  · by_cases hneg : v < 0
    · have HN : Hid (numM most a = none) := Lib.hid (HNN.out (by rw [hna, hv]; simp only; rw [if_neg (by omega)]))
      clear hna hv
      go_wp2
      go_ret
      exact ⟨v, false, rfl, H3.out, .inr ⟨HN.out, rfl⟩⟩
    · by_cases hbig : (most : Int) < v
      · have HN : Hid (numM most a = none) := Lib.hid (HNB.out v hv hbig)
        clear hna hv
        go_wp2
        go_ret
        exact ⟨v, false, rfl, H3.out, .inr ⟨HN.out, rfl⟩⟩
      · obtain ⟨n, rfl⟩ := Int.eq_ofNat_of_zero_le (by omega : 0 ≤ v)
        have HI := Lib.hid (Itoa_any (n : Int) n rfl (by omega) w2 (HG.out.st H2.out))
        have hnm : n ≤ most := by omega
        by_cases he : Lib.decDigits n = a
        · have HN : Hid (numM most a = some n) := Lib.hid (by rw [← he]; exact numM_digits hnm (by omega))
          rw [he] at HI
          have hne : (a != a) = false := by simp
          clear hna hv he
          go_wp2_with fail
          refine HI.out.mono ?_
          rintro e w3 hq
          have h3 := Lib.hid (H2.out.makes hq)
          obtain ⟨rfl, -⟩ := hq
          go_wp2
          go_ret
          exact ⟨n, ok, rfl, h3.out, .inl ⟨n, HN.out, rfl, rfl⟩⟩
        · have HN : Hid (numM most a = none) := Lib.hid (HNN.out (by rw [hna, hv]; simp only; rw [if_neg]; rintro ⟨-, -, h⟩; rw [Lib.itoa_nonneg] at h; exact he h))
          obtain ⟨x, hx⟩ : ∃ x, Lib.decDigits n = x := ⟨_, rfl⟩
          rw [hx] at HI he
          have hne : (x == a) = false := by rw [beq_eq_false_iff_ne]; exact he
          have d1 : decide ((n : Int) < 0) = false := decide_eq_false (by omega)
          have d2 : decide (most < n) = false := decide_eq_false (by omega)
          clear hna hv he hx f1 k1 H3
          go_wp2_with fail
          refine HI.out.mono ?_
          rintro e w3 hq
          have h3 := H2.out.makes hq
          have f1 := h3.free 1
          have k1 := h3.cell 1 (v := .bool ok) rfl
          have H3 : Hid (St W (w3.setCell ⟨rb, 1, none⟩ (.bool false)) (star (pt rb (.cells #[.string ⟨y.toArray⟩, .bool false] 91 (0, 0))) R)) := Lib.hid (h3.setCell 1 (.bool false))
          obtain ⟨rfl, -⟩ := hq
          clear h3
          go_wp2
          go_ret
          exact ⟨n, false, rfl, H3.out, .inr ⟨HN.out, rfl⟩⟩
  · have HN : Hid (numM most a = none) := Lib.hid (HNN.out hn)
    clear hna hn
    go_wp2
    go_ret
    exact ⟨v, false, rfl, H3.out, .inr ⟨HN.out, rfl⟩⟩
set_option maxRecDepth 100000 in
theorem ends_any {W w : World} {R : Asn} (rb : Nat) (s : Tx) (ok : Bool) (h : St W w (star (pt rb (.cells #[.string ⟨s.toArray⟩, .bool ok] 91 (0, 0))) R)) :
    Calls Tryz.prog 48 #[.pointer (some ⟨rb, 0, none⟩)] w (RPst W (.bool (ok && decide (bl s = []))) (star (pt rb (.cells #[.string ⟨(bl s).toArray⟩, .bool ok] 91 (0, 0))) R)) := by
  have HB := Lib.hid (blanks_any rb s ok h)
  obtain ⟨z, hz⟩ : ∃ z, bl s = z := ⟨_, rfl⟩
  rw [hz] at HB ⊢
  clear h hz
  go_enter Tryz.func48, Tryz.ntmps48
  go_wp2_with fail
  refine HB.out.mono ?_
  rintro e w1 ⟨rfl, h1⟩
  have c0 := h1.cell 0 (v := .string ⟨z.toArray⟩) rfl
  have c1 := h1.cell 1 (v := .bool ok) rfl
  have H1 := Lib.hid h1
  clear h1 HB
  cases ok with
  | false =>
    go_wp2
    go_ret
    exact ⟨rfl, H1.out⟩
  | true =>
    cases z with
    | nil =>
      go_wp2
      go_ret
      exact ⟨rfl, H1.out⟩
    | cons c z =>
      have hz : ((c :: z) == []) = false := rfl
      have HD : Hid ((true && decide (c :: z = [])) = false) := Lib.hid rfl
      go_wp2
      go_ret
      exact ⟨(by rw [HD.out]; rfl), H1.out⟩

end Go.Proofs.YtcjlbimmplejjaaGreatDoor.ScA
