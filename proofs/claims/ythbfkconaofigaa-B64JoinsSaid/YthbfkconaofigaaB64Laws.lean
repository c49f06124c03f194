import Derived.Test.YthbfkconaofigaaB64Dec
namespace Go.Proofs.Ythbfkconaofigaa.B64Laws
open Go Go.RowKit Go.Proofs Go.Proofs.Ythbfkconaofigaa.Sep Go.Proofs.Ythbfkconaofigaa.Reg Go.Proofs.Ythbfkconaofigaa.Frame Go.Proofs.Ythbfkconaofigaa.B64Law Go.Proofs.Ythbfkconaofigaa.Bld Go.Proofs.Ythbfkconaofigaa.B64Enc Go.Proofs.Ythbfkconaofigaa.B64Val Go.Proofs.Ythbfkconaofigaa.B64Grp Go.Proofs.Ythbfkconaofigaa.B64Dec

theorem Letters_any (n : Int) (w : World) (h0 : 0 ≤ n) (h1 : n ≤ 1099511627776) : Calls Try.prog 15 #[.int .i64 n] w (Makes w (.int .i64 ((n + 2) / 3 * 4))) := by
  go_enter Try.func15, Try.ntmps15
  go_wp2
  go_ret
  exact Makes.mk0 _ _
theorem Letters_neg (n : Int) (w : World) (h0 : n < 0) : Calls Try.prog 15 #[.int .i64 n] w (Makes w (.int .i64 0)) := by
  go_enter Try.func15, Try.ntmps15
  go_wp2
  go_ret
  exact Makes.mk0 _ _

set_option maxRecDepth 100000 in
set_option maxHeartbeats 1600000 in
theorem awake_any (w : World) : Calls Try.prog 13 #[] w (Makes w (.bool true)) := by
  have HS := St.start w
  go_enter Try.func13, Try.ntmps13
  go_wp2_with fail
  refine (show Calls Try.prog 12 _ _ (Makes w (.tuple #[.string ⟨#[102, 111, 111, 98]⟩, .bool true])) from (Decode_any [90, 109, 57, 118, 89, 103, 61, 61] (by decide) w).mono fun e w h => h.eq (by kernel_rfl)).mono ?_
  rintro e w1 hq
  have h1 := HS.makes hq
  obtain ⟨rfl, -⟩ := hq
  go_wp2_with fail
  refine (show Calls Try.prog 14 _ _ (Makes w1 (.string ⟨#[90, 109, 57, 118, 89, 103, 61, 61]⟩)) from (Encode_any [102, 111, 111, 98] (by decide) w1).mono fun e w h => h.eq (by kernel_rfl)).mono ?_
  rintro e w2 hq
  have h2 := h1.makes hq
  obtain ⟨rfl, -⟩ := hq
  go_wp2_with fail
  refine (show Calls Try.prog 15 _ _ (Makes w2 (.int .i64 8)) from (Letters_any 4 w2 (by decide) (by decide)).mono fun e w h => h.eq (by rfl)).mono ?_
  rintro e w3 hq
  have h3 := h2.makes hq
  obtain ⟨rfl, -⟩ := hq
  go_wp2
  go_ret
  exact ⟨rfl, h3.below⟩

set_option maxRecDepth 100000 in
set_option maxHeartbeats 1600000 in
theorem known_walk (W : World) : Calls Try.prog 3 #[] W (Law W emp) := by
  have HS := St.start W
  go_enter Try.func3, Try.ntmps3
  go_wp2_with fail
  refine (show Calls Try.prog 12 _ _ (Makes W (.tuple #[.string ⟨#[102, 111, 111, 98, 97, 114]⟩, .bool true])) from (Decode_any [90, 109, 57, 118, 89, 109, 70, 121] (by decide) W).mono fun e w h => h.eq (by kernel_rfl)).mono ?_
  rintro e w1 hq
  have h1 := HS.makes hq
  obtain ⟨rfl, -⟩ := hq
  go_wp2_with fail
  refine (show Calls Try.prog 12 _ _ (Makes w1 (.tuple #[.string ⟨#[]⟩, .bool false])) from (Decode_any [90, 104, 61, 61] (by decide) w1).mono fun e w h => h.eq (by kernel_rfl)).mono ?_
  rintro e w2 hq
  have h2 := h1.makes hq
  obtain ⟨rfl, -⟩ := hq
  go_wp2_with fail
  refine (show Calls Try.prog 12 _ _ (Makes w2 (.tuple #[.string ⟨#[]⟩, .bool false])) from (Decode_any [90, 103] (by decide) w2).mono fun e w h => h.eq (by kernel_rfl)).mono ?_
  rintro e w3 hq
  have h3 := h2.makes hq
  obtain ⟨rfl, -⟩ := hq
  go_wp2_with fail
  refine (show Calls Try.prog 12 _ _ (Makes w3 (.tuple #[.string ⟨#[]⟩, .bool false])) from (Decode_any [90, 103, 61, 65] (by decide) w3).mono fun e w h => h.eq (by kernel_rfl)).mono ?_
  rintro e w4 hq
  have h4 := h3.makes hq
  obtain ⟨rfl, -⟩ := hq
  go_wp2_with fail
  refine (show Calls Try.prog 12 _ _ (Makes w4 (.tuple #[.string ⟨#[]⟩, .bool true])) from (Decode_any [] (by decide) w4).mono fun e w h => h.eq (by kernel_rfl)).mono ?_
  rintro e w5 hq
  have h5 := h4.makes hq
  obtain ⟨rfl, -⟩ := hq
  go_wp2_with fail
  refine (show Calls Try.prog 12 _ _ (Makes w5 (.tuple #[.string ⟨#[]⟩, .bool false])) from (Decode_any [61, 61, 61, 61] (by decide) w5).mono fun e w h => h.eq (by kernel_rfl)).mono ?_
  rintro e w6 hq
  have h6 := h5.makes hq
  obtain ⟨rfl, -⟩ := hq
  go_wp2_with fail
  refine (show Calls Try.prog 12 _ _ (Makes w6 (.tuple #[.string ⟨#[]⟩, .bool false])) from (Decode_any [90, 103, 61, 61, 90, 103, 61, 61] (by decide) w6).mono fun e w h => h.eq (by kernel_rfl)).mono ?_
  rintro e w7 hq
  have h7 := h6.makes hq
  obtain ⟨rfl, -⟩ := hq
  go_wp2_with fail
  refine (show Calls Try.prog 13 _ _ (Makes w7 (.bool true)) from awake_any w7).mono ?_
  rintro e w8 hq
  have h8 := h7.makes hq
  obtain ⟨rfl, -⟩ := hq
  go_wp2_with fail
  refine (show Calls Try.prog 14 _ _ (Makes w8 (.string ⟨#[]⟩)) from (Encode_any [] (by decide) w8).mono fun e w h => h.eq (by kernel_rfl)).mono ?_
  rintro e w9 hq
  have h9 := h8.makes hq
  obtain ⟨rfl, -⟩ := hq
  go_wp2_with fail
  refine (show Calls Try.prog 14 _ _ (Makes w9 (.string ⟨#[90, 103, 61, 61]⟩)) from (Encode_any [102] (by decide) w9).mono fun e w h => h.eq (by kernel_rfl)).mono ?_
  rintro e w10 hq
  have h10 := h9.makes hq
  obtain ⟨rfl, -⟩ := hq
  go_wp2_with fail
  refine (show Calls Try.prog 14 _ _ (Makes w10 (.string ⟨#[90, 109, 56, 61]⟩)) from (Encode_any [102, 111] (by decide) w10).mono fun e w h => h.eq (by kernel_rfl)).mono ?_
  rintro e w11 hq
  have h11 := h10.makes hq
  obtain ⟨rfl, -⟩ := hq
  go_wp2_with fail
  refine (show Calls Try.prog 14 _ _ (Makes w11 (.string ⟨#[90, 109, 57, 118]⟩)) from (Encode_any [102, 111, 111] (by decide) w11).mono fun e w h => h.eq (by kernel_rfl)).mono ?_
  rintro e w12 hq
  have h12 := h11.makes hq
  obtain ⟨rfl, -⟩ := hq
  go_wp2_with fail
  refine (show Calls Try.prog 15 _ _ (Makes w12 (.int .i64 0)) from (Letters_any 0 w12 (by decide) (by decide)).mono fun e w h => h.eq (by rfl)).mono ?_
  rintro e w13 hq
  have h13 := h12.makes hq
  obtain ⟨rfl, -⟩ := hq
  go_wp2_with fail
  refine (show Calls Try.prog 15 _ _ (Makes w13 (.int .i64 0)) from (Letters_neg (-1) w13 (by decide)).mono fun e w h => h.eq (by rfl)).mono ?_
  rintro e w14 hq
  have h14 := h13.makes hq
  obtain ⟨rfl, -⟩ := hq
  go_wp2_with fail
  refine (show Calls Try.prog 15 _ _ (Makes w14 (.int .i64 28)) from (Letters_any 20 w14 (by decide) (by decide)).mono fun e w h => h.eq (by rfl)).mono ?_
  rintro e w15 hq
  have h15 := h14.makes hq
  obtain ⟨rfl, -⟩ := hq
  go_wp2
  go_ret
  exact ⟨rfl, h15⟩


set_option maxRecDepth 100000 in
set_option maxHeartbeats 1600000 in
theorem back_walk (s : List UInt8) (_ : (⟨s.toArray⟩ : ByteArray).size ≤ maxLen) (t : List UInt8) (_ : (⟨t.toArray⟩ : ByteArray).size ≤ maxLen) {W : World} :
    Calls Try.prog 5 #[.string ⟨s.toArray⟩, .string ⟨t.toArray⟩] W (Law W emp) := by
  have HS := St.start W
  go_enter Try.func5, Try.ntmps5
  go_wp2_with fail
  refine (awake_any W).mono ?_
  rintro e w1 hq
  have h1 := HS.makes hq
  obtain ⟨rfl, -⟩ := hq
  by_cases hs : 5000 < s.length
  · go_wp2
    go_ret
    exact ⟨rfl, h1⟩
  by_cases ht : 5000 < t.length
  · go_wp2
    go_ret
    exact ⟨rfl, h1⟩
  have HE := Lib.hid fun w => Encode_any s (by omega) w
  have HL := Lib.hid (enc_length s)
  have HD := Lib.hid fun w => (show Calls Try.prog 12 #[.string ⟨(enc s).toArray⟩] w (Makes w (.tuple #[.string ⟨s.toArray⟩, .bool true])) from
    (Decode_any (enc s) (by rw [enc_length]; omega) w).mono fun e w h => h.eq (decV_some (dec_enc s)))
  have hlI : ((s.length : Int) + 2) / 3 * 4 = ((enc s).length : Int) := by rw [enc_length]; omega
  have HLt := Lib.hid fun w => (show Calls Try.prog 15 #[.int .i64 (s.length : Int)] w (Makes w (.int .i64 ((enc s).length : Int))) from
    (Letters_any (s.length : Int) w (by omega) (by omega)).mono fun e w h => h.eq (by rw [hlI]))
  clear hlI
  have hel : (enc s).length ≤ 100000 := by rw [enc_length]; omega
  generalize enc s = es at *
  go_wp2_with fail
  refine (HE.out _).mono ?_
  rintro e w2 hq
  have h2 := h1.makes hq
  obtain ⟨rfl, -⟩ := hq
  go_wp2_with fail
  refine (HD.out _).mono ?_
  rintro e w3 hq
  have h3 := h2.makes hq
  obtain ⟨rfl, -⟩ := hq
  go_wp2_with fail
  refine (HE.out _).mono ?_
  rintro e w4 hq
  have h4 := h3.makes hq
  obtain ⟨rfl, -⟩ := hq
  go_wp2_with fail
  refine (HLt.out _).mono ?_
  rintro e w5 hq
  have h5 := h4.makes hq
  obtain ⟨rfl, -⟩ := hq
  have HDt := Lib.hid fun w => Decode_any t (by omega) w
  cases hd : dec t with
  | none =>
    rw [decV_none hd] at HDt
    clear hd
    go_wp2_with fail
    refine (HDt.out _).mono ?_
    rintro e w6 hq
    have h6 := h5.makes hq
    obtain ⟨rfl, -⟩ := hq
    go_wp2
    go_ret
    exact ⟨rfl, h6⟩
  | some u =>
    rw [decV_some hd] at HDt
    have hud := enc_dec t u hd
    have hul := congrArg List.length hud
    rw [enc_length] at hul
    have HEu := Lib.hid fun w => Encode_any u (by omega) w
    rw [hud] at HEu
    clear hd hud hul
    go_wp2_with fail
    refine (HDt.out _).mono ?_
    rintro e w6 hq
    have h6 := h5.makes hq
    obtain ⟨rfl, -⟩ := hq
    go_wp2_with fail
    refine (HEu.out _).mono ?_
    rintro e w7 hq
    have h7 := h6.makes hq
    obtain ⟨rfl, -⟩ := hq
    go_wp2
    go_ret
    exact ⟨rfl, h7⟩

end Go.Proofs.Ythbfkconaofigaa.B64Laws
