import Derived.Test.YthbfkconaofigaaB64Grp
namespace Go.Proofs.Ythbfkconaofigaa.B64Dec
open Go Go.RowKit Go.Proofs Go.Proofs.Ythbfkconaofigaa.Sep Go.Proofs.Ythbfkconaofigaa.Reg Go.Proofs.Ythbfkconaofigaa.Frame Go.Proofs.Ythbfkconaofigaa.B64Law Go.Proofs.Ythbfkconaofigaa.Bld Go.Proofs.Ythbfkconaofigaa.B64Enc Go.Proofs.Ythbfkconaofigaa.B64Val Go.Proofs.Ythbfkconaofigaa.B64Grp

/-- What Decode hands back. -/
def decV (t : List UInt8) : Value := match dec t with
  | some u => .tuple #[.string ⟨u.toArray⟩, .bool true]
  | none => .tuple #[.string ⟨#[]⟩, .bool false]
theorem decV_none {t : List UInt8} (h : dec t = none) : decV t = .tuple #[.string ⟨#[]⟩, .bool false] := by unfold decV; rw [h]
theorem decV_some {t u : List UInt8} (h : dec t = some u) : decV t = .tuple #[.string ⟨u.toArray⟩, .bool true] := by unfold decV; rw [h]

theorem suf1 (a b c d : UInt8) : Lib.trimSuffix [a, b, c, d] [61] = if d = 61 then [a, b, c] else [a, b, c, d] := by
  unfold Lib.trimSuffix Lib.hasSuffix
  by_cases h : d = 61
  · subst h; simp [List.isSuffixOf, List.isPrefixOf]
  · have : (61 : UInt8) ≠ d := fun e => h e.symm
    simp [List.isSuffixOf, List.isPrefixOf, h, this]
theorem suf2 (a b c : UInt8) : Lib.trimSuffix [a, b, c] [61] = if c = 61 then [a, b] else [a, b, c] := by
  unfold Lib.trimSuffix Lib.hasSuffix
  by_cases h : c = 61
  · subst h; simp [List.isSuffixOf, List.isPrefixOf]
  · have : (61 : UInt8) ≠ c := fun e => h e.symm
    simp [List.isSuffixOf, List.isPrefixOf, h, this]
theorem trim_eq (a b c d : UInt8) : Lib.trimSuffix (Lib.trimSuffix [a, b, c, d] [61]) [61] = trim4 a b c d := by
  rw [suf1]
  unfold trim4
  by_cases h : d = 61
  · rw [if_pos h, if_pos h, suf2]
  · rw [if_neg h, if_neg h, suf1, if_neg h]
theorem trim_len (a b c d : UInt8) : 2 ≤ (trim4 a b c d).length ∧ (trim4 a b c d).length ≤ 4 := by
  unfold trim4; split
  · split <;> simp
  · simp
theorem dec_len : ∀ (t : List UInt8), t.length % 4 ≠ 0 → dec t = none
  | [], h => by simp at h
  | [_], _ => rfl
  | [_, _], _ => rfl
  | [_, _, _], _ => rfl
  | a :: b :: c :: d :: r, h => by
    have ih := dec_len r (by simp at h; omega)
    unfold dec
    rw [if_neg (by rintro rfl; simp at h), ih]
    split <;> simp_all

set_option maxRecDepth 100000 in
set_option maxHeartbeats 1600000 in
theorem Decode_any (t : List UInt8) (ht : t.length ≤ 100000) (w : World) : Calls Try.prog 12 #[.string ⟨t.toArray⟩] w (Makes w (decV t)) := by
  by_cases h4 : t.length % 4 = 0
  · have h0 := BldA.new (St.start w)
    have h4I : ((t.length : Int) % 4 != 0) = false := by simp; omega
    go_enter Try.func12, Try.ntmps12
    go_wp2_with fail
    generalize w.heap.size = b at *
    clear h4I
    go_loopw [0] (fun sv wr => ∃ (r o : List UInt8), sv = .string ⟨r.toArray⟩ ∧ r.length % 4 = 0 ∧ o.length + r.length ≤ t.length ∧ (∀ y, dec r = some y → dec t = some (o ++ y)) ∧ (dec r = none → dec t = none) ∧ St w wr (star (BldA b o) emp)) (fun sv _ => slen sv)
    case atStart => exact ⟨t, [], rfl, h4, by simp, fun y h => h, fun h => h, h0⟩
    case round =>
      obtain ⟨r, o, rfl, hr4, hol, hs, hn, hS⟩ := hrel
      have HS := Lib.hid hs
      have HN := Lib.hid hn
      clear hs hn h0 h4
      match r, hr4, hol, HS, HN with
      | [], hr4, hol, HS, HN =>
        have HD := Lib.hid (HS.out [] rfl)
        have hlen : decide (0 < ([] : List UInt8).length) = false := rfl
        clear hr4
        go_wp2_with fail
        refine (String_any hS).mono ?_
        rintro e w' ⟨rfl, hb⟩
        have hb' := hS.below.trans hb
        go_wp2
        go_ret2
        have hD := decV_some HD.out
        rw [List.append_nil] at hD
        exact ⟨congrArg Ending.returned hD.symm, hb'⟩
      | [_], hr4, hol, HS, HN => simp at hr4
      | [_, _], hr4, hol, HS, HN => simp at hr4
      | [_, _, _], hr4, hol, HS, HN => simp at hr4
      | a :: x :: c :: d :: q, hr4, hol, HS, HN =>
        have hq4 : q.length % 4 = 0 := by simp at hr4; omega
        have hol2 : o.length + q.length + 4 ≤ t.length := by simp at hol; omega
        have hl0 : 4 ≤ (a :: x :: c :: d :: q).length := by simp
        have hs1 := run_str_h (P := Try.prog) 9 Try.underlying9 (a :: x :: c :: d :: q) 4 4 rfl hl0
        have hs2 := run_str_l (P := Try.prog) 9 Try.underlying9 (a :: x :: c :: d :: q) 4 4 rfl hl0
        have ht4 : (a :: x :: c :: d :: q).take 4 = [a, x, c, d] := rfl
        have hd4 : (a :: x :: c :: d :: q).drop 4 = q := rfl
        rw [ht4] at hs1
        rw [hd4] at hs2
        have hm : slen (.string ⟨(a :: x :: c :: d :: q).toArray⟩) = q.length + 4 := by simp [slen, ByteArray.size]
        have HM := Lib.hid hm
        have hpos : 0 < (a :: x :: c :: d :: q).length := by simp
        have HDR : Hid (dec (a :: x :: c :: d :: q) = if q = [] then dec1 (trim4 a x c d) else match dec1 [a, x, c, d], dec q with | some x, some y => some (x ++ y) | _, _ => none) := Lib.hid rfl
        clear ht4 hd4 hm hr4 hol
        generalize a :: x :: c :: d :: q = r at *
        by_cases hq : q = []
        · subst hq
          rw [if_pos rfl] at HDR
          have hcs := fun w => Try.strings_TrimSuffix ⟨#[a, x, c, d]⟩ ⟨#[61]⟩ w (by show 4 ≤ _; omega)
          have hcs2 := fun w => Try.strings_TrimSuffix ⟨(Lib.trimSuffix [a, x, c, d] [61]).toArray⟩ ⟨#[61]⟩ w (by
            rw [suf1]; split <;> simp [ByteArray.size])
          simp only [trim_eq] at hcs2
          have H1 := Lib.hid hcs
          have H2 := Lib.hid hcs2
          clear hcs hcs2
          obtain ⟨hg2, hg4⟩ := trim_len a x c d
          have hgr := fun w => group_any (trim4 a x c d) w hg2 hg4
          have H3 := Lib.hid hgr
          clear hgr
          go_wp2_with fail
          refine (H1.out _).mono ?_
          rintro e w' ⟨rfl, rfl⟩
          go_wp2_with fail
          refine (H2.out _).mono ?_
          rintro e w' ⟨rfl, rfl⟩
          generalize trim4 a x c d = g at *
          go_wp2_with fail
          refine (H3.out _).mono ?_
          rintro e w2 ⟨o2, ok, rfl, hy, hnn, ho2, hb⟩
          have hS2 := St.past hS hb
          cases ok with
          | false =>
            have HH := Lib.hid (HN.out (HDR.out.trans (hnn rfl)))
            clear hy hnn
            go_wp2
            go_ret2
            exact ⟨congrArg _ (decV_none HH.out).symm, hS2.below⟩
          | true =>
            have HH := Lib.hid (HS.out _ (HDR.out.trans (hy rfl)))
            clear hy hnn
            go_wp2_with fail
            refine (WriteString_any o2 (by omega) (by omega) hS2).mono ?_
            rintro e w3 ⟨rfl, h3⟩
            go_wp2
            refine ⟨⟨[], o ++ o2, rfl, rfl, by simp; omega, fun y h => ?_, fun h => by simp [dec] at h, h3⟩, ?_⟩
            · simp [dec] at h; subst h; rw [HH.out, List.append_nil]
            · rw [HM.out]; simp [slen, ByteArray.size]
        · rw [if_neg hq] at HDR
          have hqe : q.isEmpty = false := by cases q <;> simp_all
          have hgr := fun w => group_any [a, x, c, d] w (by simp) (by simp)
          have H3 := Lib.hid hgr
          clear hgr hq
          go_wp2_with fail
          refine (H3.out _).mono ?_
          rintro e w2 ⟨o2, ok, rfl, hy, hnn, ho2, hb⟩
          have hS2 := St.past hS hb
          cases ok with
          | false =>
            have HH := Lib.hid (HN.out (by rw [HDR.out, hnn rfl]))
            clear hy hnn
            go_wp2
            go_ret2
            exact ⟨congrArg _ (decV_none HH.out).symm, hS2.below⟩
          | true =>
            have HE : Hid (∀ y, dec q = some y → dec r = some (o2 ++ y)) := Lib.hid (fun y h => by rw [HDR.out, hy rfl, h])
            have HF : Hid (dec q = none → dec r = none) := Lib.hid (fun h => by rw [HDR.out, hy rfl, h])
            clear hy hnn
            go_wp2_with fail
            refine (WriteString_any o2 (by omega) (by omega) hS2).mono ?_
            rintro e w3 ⟨rfl, h3⟩
            go_wp2
            refine ⟨⟨q, o ++ o2, rfl, hq4, by simp; omega, fun y h => ?_, fun h => HN.out (HF.out h), h3⟩, ?_⟩
            · rw [HS.out _ (HE.out y h), List.append_assoc]
            · rw [HM.out]; simp [slen, ByteArray.size]
  · have hd := decV_none (dec_len t h4)
    rw [hd]
    have h4I : ((t.length : Int) % 4 != 0) = true := by simp; omega
    clear h4 hd
    go_enter Try.func12, Try.ntmps12
    go_wp2
    go_ret2
    exact Makes.mk0 _ _

end Go.Proofs.Ythbfkconaofigaa.B64Dec
