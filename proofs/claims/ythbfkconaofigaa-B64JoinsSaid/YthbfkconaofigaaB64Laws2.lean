import Derived.Test.YthbfkconaofigaaB64RefD
namespace Go.Proofs.Ythbfkconaofigaa.B64Laws2
open Go Go.RowKit Go.Proofs Go.Proofs.Ythbfkconaofigaa.Sep Go.Proofs.Ythbfkconaofigaa.Reg Go.Proofs.Ythbfkconaofigaa.Frame Go.Proofs.Ythbfkconaofigaa.B64Law Go.Proofs.Ythbfkconaofigaa.Bld Go.Proofs.Ythbfkconaofigaa.B64Enc Go.Proofs.Ythbfkconaofigaa.B64Val Go.Proofs.Ythbfkconaofigaa.B64Grp Go.Proofs.Ythbfkconaofigaa.B64Dec Go.Proofs.Ythbfkconaofigaa.B64RefP Go.Proofs.Ythbfkconaofigaa.B64Ref Go.Proofs.Ythbfkconaofigaa.B64RefD Go.Proofs.Ythbfkconaofigaa.B64Laws

set_option maxRecDepth 100000 in
set_option maxHeartbeats 1600000 in
theorem codes_walk (s : List UInt8) (_ : (⟨s.toArray⟩ : ByteArray).size ≤ maxLen) (t : List UInt8) (_ : (⟨t.toArray⟩ : ByteArray).size ≤ maxLen) {W : World} :
    Calls Try.prog 4 #[.string ⟨s.toArray⟩, .string ⟨t.toArray⟩] W (Law W emp) := by
  have HS := St.start W
  go_enter Try.func4, Try.ntmps4
  go_wp2_with fail
  refine (awake_any W).mono ?_
  rintro e w1 hq
  have h1 := HS.makes hq
  obtain ⟨rfl, -⟩ := hq
  by_cases hs : 5000 < s.length
  · go_wp2
    go_ret
    exact ⟨rfl, h1⟩
  by_cases ht : 5000 < t.length
  · go_wp2
    go_ret
    exact ⟨rfl, h1⟩
  have HD := Lib.hid fun w => Decode_any t (by omega) w
  have HR := Lib.hid fun w => rDecode_any t (by omega) w
  have HE := Lib.hid fun w => Encode_any s (by omega) w
  have HF := Lib.hid fun w => rEncode_any s (by omega) w
  rw [refEnc_eq] at HF
  generalize enc s = es at *
  obtain ⟨u, ok, hv⟩ : ∃ u ok, decV t = .tuple #[.string ⟨(u : List UInt8).toArray⟩, .bool ok] := by
    unfold decV; split
    · exact ⟨_, _, rfl⟩
    · exact ⟨[], _, rfl⟩
  rw [hv] at HD HR
  clear hv
  cases ok
  all_goals
    go_wp2_with fail
    refine (HD.out _).mono ?_
    rintro e w2 hq
    have h2 := h1.makes hq
    obtain ⟨rfl, -⟩ := hq
    go_wp2_with fail
    refine (HR.out _).mono ?_
    rintro e w3 hq
    have h3 := h2.makes hq
    obtain ⟨rfl, -⟩ := hq
    go_wp2_with fail
    refine (HE.out _).mono ?_
    rintro e w4 hq
    have h4 := h3.makes hq
    obtain ⟨rfl, -⟩ := hq
    go_wp2_with fail
    refine (HF.out _).mono ?_
    rintro e w5 hq
    have h5 := h4.makes hq
    obtain ⟨rfl, -⟩ := hq
    go_wp2
    go_ret
    exact ⟨rfl, h5⟩

set_option maxRecDepth 100000 in
set_option maxHeartbeats 1600000 in
theorem joins_walk (s : List UInt8) (_ : (⟨s.toArray⟩ : ByteArray).size ≤ maxLen) (t : List UInt8) (_ : (⟨t.toArray⟩ : ByteArray).size ≤ maxLen) (m : Int) (hm : (Lit.int .u16 m).wf = true) (c : Int) (hc : (Lit.int .u8 c).wf = true) {W : World} :
    Calls Try.prog 6 #[.string ⟨s.toArray⟩, .string ⟨t.toArray⟩, .int .u16 m, .int .u8 c] W (Law W emp) := by
  have HS := St.start W
  obtain ⟨m, rfl, hm'⟩ : ∃ n : Nat, m = n ∧ n ≤ 65535 := by
    simp [Lit.wf, IntKind.min, IntKind.max, IntKind.signed, IntKind.bits] at hm
    exact ⟨m.toNat, by omega, by omega⟩
  obtain ⟨c, rfl⟩ : ∃ n : UInt8, c = n.toNat := by
    simp [Lit.wf, IntKind.min, IntKind.max, IntKind.signed, IntKind.bits] at hc
    refine ⟨UInt8.ofNat c.toNat, ?_⟩
    simp; omega
  clear hm hc
  go_enter Try.func6, Try.ntmps6
  go_wp2_with fail
  refine (awake_any W).mono ?_
  rintro e w1 hq
  have h1 := HS.makes hq
  obtain ⟨rfl, -⟩ := hq
  by_cases hs : 3000 < s.length
  · go_wp2
    go_ret
    exact ⟨rfl, h1⟩
  by_cases ht : 3000 < t.length
  · go_wp2
    go_ret
    exact ⟨rfl, h1⟩
  have hstr := run_str_h (P := Try.prog) 9 Try.underlying9 s ((s.length : Int) / 3 * 3) (s.length / 3 * 3) (by omega) (by omega)
  have hp3 : (s.take (s.length / 3 * 3)).length % 3 = 0 := by simp; omega
  have hpl : (s.take (s.length / 3 * 3)).length ≤ 3000 := by simp; omega
  generalize s.take (s.length / 3 * 3) = p at *
  have hadd := run_str_add (P := Try.prog) p t (by omega)
  have HEp := Lib.hid fun w => Encode_any p (by omega) w
  have HEt := Lib.hid fun w => Encode_any t (by omega) w
  have HEx := Lib.hid fun w => Encode_any (p ++ t) (by simp; omega) w
  have hadd2 := run_str_add (P := Try.prog) (enc p) (enc t) (by simp only [enc_length]; omega)
  have hjoin := enc_append p t hp3
  rw [← hjoin] at hadd2
  have hxl : (enc (p ++ t)).length ≤ 10000 := by rw [enc_length]; simp; omega
  have HX : Hid (∃ x, enc (p ++ t) = x) := Lib.hid ⟨_, rfl⟩
  have HXs : Hid (∀ u x, enc (p ++ t) ≠ x → dec x = some u → u ≠ p ++ t) := Lib.hid (by
    rintro u x hne hd rfl
    exact hne (enc_dec _ _ hd))
  generalize enc (p ++ t) = x at *
  generalize enc p = ep at *
  generalize enc t = et at *
  clear hjoin hp3
  go_wp2_with fail
  refine (HEx.out _).mono ?_
  rintro e w2 hq
  have h2 := h1.makes hq
  obtain ⟨rfl, -⟩ := hq
  go_wp2_with fail
  refine (HEp.out _).mono ?_
  rintro e w3 hq
  have h3 := h2.makes hq
  obtain ⟨rfl, -⟩ := hq
  go_wp2_with fail
  refine (HEt.out _).mono ?_
  rintro e w4 hq
  have h4 := h3.makes hq
  obtain ⟨rfl, -⟩ := hq
  by_cases hx0 : x.length = 0
  · obtain rfl := List.eq_nil_of_length_eq_zero hx0
    clear hx0
    go_wp2
    go_ret
    exact ⟨rfl, h4⟩
  have hlb : ((x.length : Int) == 0) = false := by simp only [beq_eq_false_iff_ne, ne_eq]; omega
  have hxp : 0 < x.length := by omega
  clear hx0
  obtain ⟨k, hk⟩ : ∃ k, m % x.length = k := ⟨_, rfl⟩
  have hkl : k < x.length := by rw [← hk]; exact Nat.mod_lt _ hxp
  have hkI : (m : Int) % (x.length : Int) = (k : Int) := by rw [← hk]; simp
  clear hk
  have hksz : k < (ByteArray.mk x.toArray).size := by simpa [ByteArray.size] using hkl
  have hget : x[k]? = some ((ByteArray.mk x.toArray)[k]'hksz) := by rw [List.getElem?_eq_getElem hkl]; rfl
  by_cases hsame : (ByteArray.mk x.toArray)[k]'hksz = c
  · have hI : ((((ByteArray.mk x.toArray)[k]'hksz).toNat : Int) == (c.toNat : Int)) = true := by rw [hsame]; simp
    clear hsame hget
    go_wp2_with fail
    go_ret
    exact ⟨rfl, h4⟩
  · have hI : ((((ByteArray.mk x.toArray)[k]'hksz).toNat : Int) == (c.toNat : Int)) = false := by
      simp only [beq_eq_false_iff_ne, ne_eq]
      intro h
      exact hsame (UInt8.toNat_inj.1 (Int.ofNat.inj h))
    have hne : x ≠ x.set k c := by
      intro h
      have := congrArg (fun l => l[k]?) h
      simp only [hget, List.getElem?_set_self hkl] at this
      exact hsame (Option.some.inj this)
    clear hsame hget
    have HNE := Lib.hid hne
    clear hne
    obtain ⟨cs, cap, w5, hcv, htk, hn1, hn2, hn3, h5⟩ := St.bytesOf (P := Try.prog) h4 9 29 5 Try.underlying9 Try.underlying29 Try.underlying5 x (by unfold maxLen; omega)
    obtain ⟨g, hg⟩ : ∃ g, w4.heap.size = g := ⟨_, rfl⟩
    rw [hg] at hcv h5
    have hfr := h5.free_lt k (by show k < cs.size; omega)
    have hcell := h5.cell k (v := .int .u8 (((ByteArray.mk x.toArray)[k]'hksz).toNat : Int)) (by
      have : (bytesV x)[k]? = some (.int .u8 (((ByteArray.mk x.toArray)[k]'hksz).toNat : Int)) := by
        simp [bytesV, List.getElem?_eq_getElem hkl]; rfl
      rw [← htk, List.getElem?_take, if_pos hkl] at this
      simpa using this)
    have h6 := h5.setCell k (.int .u8 (c.toNat : Int))
    have hsl := h6.headSl x.length cap (x.set k c) (by simp) hn2 hn3 (by rw [set_take _ _ _ _ _ htk, bytesV_set])
    have hcv2 := run_string_of (P := Try.prog) hsl 29 9 5 Try.underlying29 Try.underlying5 Try.underlying9
    have HDx := Lib.hid fun w => Decode_any (x.set k c) (by simp; omega) w
    have HXs2 : Hid (∀ u, dec (x.set k c) = some u → u ≠ p ++ t) := Lib.hid (fun u hd => HXs.out u _ HNE.out hd)
    generalize x.set k c = xs at *
    have HTK := Lib.hid htk
    have hcap : cap ≤ 9223372036854775807 := by simpa [maxLen] using hn3
    clear htk hg hn3 hsl
    cases hd : dec xs with
    | none =>
      rw [decV_none hd] at HDx
      clear hd
      go_wp2_with fail
      refine (HDx.out _).mono ?_
      rintro e w7 hq
      have h7 := h6.makes hq
      obtain ⟨rfl, -⟩ := hq
      go_wp2
      go_ret
      exact ⟨rfl, h7.right⟩
    | some u =>
      have hune := HXs2.out u hd
      rw [decV_some hd] at HDx
      have hneb : (u == p ++ t) = false := by simpa using hune
      have hneb2 : (u != p ++ t) = true := by simp [bne, hneb]
      clear hd hune
      generalize p ++ t = pt at *
      go_wp2_with fail
      refine (HDx.out _).mono ?_
      rintro e w7 hq
      have h7 := h6.makes hq
      obtain ⟨rfl, -⟩ := hq
      go_wp2
      go_ret
      exact ⟨rfl, h7.right⟩

end Go.Proofs.Ythbfkconaofigaa.B64Laws2
