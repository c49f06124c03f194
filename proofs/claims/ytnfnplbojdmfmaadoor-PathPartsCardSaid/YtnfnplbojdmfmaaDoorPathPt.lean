import Derived.Test.YtnfnplbojdmfmaaDoorPathA
import Derived.BigFrame
namespace Go.Proofs.YtnfnplbojdmfmaaDoor.PathPt
open Go Go.RowKit Go.Proofs Go.Proofs.YtnfnplbojdmfmaaDoor.Sep Go.Proofs.YtnfnplbojdmfmaaDoor.Reg Go.Proofs.YtnfnplbojdmfmaaDoor.Frame Go.Proofs.YtnfnplbojdmfmaaDoor.PathP Go.Proofs.YtnfnplbojdmfmaaDoor.PathQ Go.Proofs.YtnfnplbojdmfmaaDoor.PathW Go.Proofs.YtnfnplbojdmfmaaDoor.PathL Go.Proofs.YtnfnplbojdmfmaaDoor.PathM Go.Proofs.YtnfnplbojdmfmaaDoor.PathT Go.Proofs.YtnfnplbojdmfmaaDoor.PathS Go.Proofs.YtnfnplbojdmfmaaDoor.PathSp Go.Proofs.YtnfnplbojdmfmaaDoor.PathJ Go.Proofs.YtnfnplbojdmfmaaDoor.PathA

theorem infoS : (Tryd.prog.info? 9).map (fun i => (i.zero, i.size, i.bytes)) = some (some (.string ByteArray.empty), 1, 16) := by kernel_rfl
theorem strsV_one (l : List (List UInt8)) : ∀ u ∈ strsV l, u.oneCell' = true := by
  intro u hu
  obtain ⟨x, _, rfl⟩ := List.mem_map.1 hu
  rfl
theorem segs_small {s : List UInt8} {m : List (List UInt8)} (h : segs s = some m) : m.length ≤ 513 ∧ ∀ x ∈ m, x.length ≤ 512 := by
  obtain ⟨⟨h1, h2, h3⟩, rfl, h5⟩ := segs_some h
  have h4 := parts_count (s.drop 1)
  have h6 := List.count_le_length (a := (47 : UInt8)) (l := s.drop 1)
  have h7 := part_len (s.drop 1)
  refine ⟨by simp at h4 h6 ⊢; omega, ?_⟩
  intro x hx
  obtain ⟨y, hy, rfl⟩ := List.mem_map.1 hx
  have := unpct_len _ y (Nat.le_refl _)
  have := h7 y hy
  simp at this
  omega
theorem count_take (s : List UInt8) (i : Nat) (c : UInt8) (h : s[i]? = some c) : (s.take (i + 1)).count 47 = (s.take i).count 47 + if c = 47 then 1 else 0 := by
  rw [List.take_add_one, h]
  by_cases hc : c = 47
  · subst hc; simp
  · simp [List.count_append, hc]
/-- append, from whatever source: an operation whose guard says yes. -/
theorem wpList_append_SlG {P : Program} {W w : World} {R : Asn} {ops : Array Oper} {rest : List Oper} {o : Oper} {a : Act} {Q : Exit → Act → World → Prop} (hw : Region.wanted o (yielded ops a.tmps) = true) (s x : Operand) (t : TypeId)
    (ho : o.op = .call { callee := .builtin .append, args := #[s, x], argTypes := #[t, t] })
    (e : TypeId) (i : TypeInfo) (z : Value) (size bytes : Nat) (ht : P.underlying t = some (.slice e)) (hi : P.info? e = some i) (hz : i.zero = some z)
    (hsize : i.size = size) (hby : i.bytes = bytes) (hzs : z.cells.size = size)
    (v : Value) (n : Nat) (xs : List Value) (hs : a.eval s = v) (hown : St W w (star (Row e size v n xs) R))
    (u : Value) (m : Nat) (news : List Value) (hx : a.eval x = u) (hsl : Sl w size u m news) (h1 : ∀ u ∈ news, u.oneCell' = true)
    (h63 : n + m ≤ maxLen) (hbytes : (n + m) * bytes ≤ 140737488355328)
    (h : ∀ v' w', St W w' (star (Row e size v' (n + m) (xs ++ news)) R) → (v' = .slice none 0 0 ↔ v = .slice none 0 0 ∧ m = 0) → wpList P ops Q rest (a.put o.dst v') w') : wpList P ops Q (o :: rest) a w := by
  refine Go.BigFrame.wpList_want hw fun _ hK => ?_
  obtain ⟨v', w', hr, h2, h4⟩ := run_append_Sl (P := P) t o.type e i z size bytes ht hi hz hsize hby hzs v n xs hown u m news hsl h1 h63 hbytes
  unfold Oper.wp execOp
  simp only [ho, resolve, invoke, builtin, Sem.run_bind, Sem.run_pure, Result.andThen_ok, List.map_toArray, List.map_cons, List.map_nil, hs, hx, hr]
  exact hK _ _ (h v' w' h2 h4)

set_option maxRecDepth 100000 in
set_option maxHeartbeats 8000000 in
theorem parts_walk (s : List UInt8) (_ : (⟨s.toArray⟩ : ByteArray).size ≤ maxLen) (t : List UInt8) (_ : (⟨t.toArray⟩ : ByteArray).size ≤ maxLen) {W : World} (hm : MaxLen W) :
    Calls Tryd.prog 8 #[.string ⟨s.toArray⟩, .string ⟨t.toArray⟩] W (Law W emp) := by
  obtain ⟨i9, hi9, hs0, hs1, hs2⟩ := info_parts infoS
  have HS := St.start W
  go_enter Tryd.func8, Tryd.ntmps8
  go_wp2_with fail
  refine (awake_any W hm).mono ?_
  rintro e w1 hq
  have h1 := HS.makes hq
  obtain ⟨rfl, -⟩ := hq
  by_cases hs : 600 < s.length
  · go_wp2
    go_ret
    exact ⟨rfl, h1⟩
  by_cases ht : 600 < t.length
  · go_wp2
    go_ret
    exact ⟨rfl, h1⟩
  have HA := Lib.hid (pSplit_any s w1 (by omega) (hm.st h1))
  have HB := Lib.hid fun w hm => pSplit_any t w (by omega) hm
  have HC := Lib.hid fun w hm => pSplit_any (s ++ t) w (by simp; omega) hm
  have hadd := run_str_add (P := Tryd.prog) s t (by omega)
  have hstl : (s ++ t).length = s.length + t.length := by simp
  have HAPP : Hid (∀ a b, segs s = some a → segs t = some b → (s ++ t).length ≤ 512 → segs (s ++ t) = some (a ++ b)) := Lib.hid fun a b h1 h2 h3 => segs_app h1 h2 h3
  have HLong : Hid (512 < (s ++ t).length → segs (s ++ t) = none) := Lib.hid (fun h => by
    cases hx : segs (s ++ t) with
    | none => rfl
    | some m => have := (segs_some hx).1.2.2; omega)
  generalize hst : s ++ t = st at *
  clear hst
  cases ha : segs s with
  | none =>
    rw [ha] at HA
    clear ha
    go_wp2_with fail
    refine HA.out.mono ?_
    rintro e w2 ⟨rfl, hq⟩
    have h2 := h1.past hq
    clear hq
    cases hb : segs t with
    | none =>
      have HB2 := Lib.hid (HB.out w2 (hm.st h2))
      rw [hb] at HB2
      clear hb
      go_wp2_with fail
      refine HB2.out.mono ?_
      rintro e w3 ⟨rfl, hq⟩
      have h3 := h2.past hq
      clear hq
      go_wp2_with fail
      go_loop [9, 10] (fun nv iv => ∃ i : Nat, i ≤ s.length ∧ iv = .int .i64 i ∧ nv = .int .i64 ((s.take i).count 47 : Nat)) (fun _ iv => s.length - (intOf iv).toNat)
      case atStart => exact ⟨0, by omega, rfl, rfl⟩
      case round =>
        obtain ⟨i, hi, rfl, rfl⟩ := hrel
        by_cases hi2 : i < s.length
        · have hsz : i < (ByteArray.mk s.toArray).size := by simpa [ByteArray.size] using hi2
          have hget := get_byte s i hsz
          have hct := List.count_le_length (a := (47 : UInt8)) (l := s.take i)
          have hct2 : (s.take i).length ≤ s.length := by rw [List.length_take]; omega
          generalize hch : (ByteArray.mk s.toArray)[i]'hsz = ch at *
          have HT := Lib.hid (count_take s i ch hget)
          clear hget
          by_cases h47 : ch = 47
          · have h47I : ((ch.toNat : Int) == 47) = true := by rw [h47]; rfl
            have HT2 : Hid ((s.take (i + 1)).count 47 = (s.take i).count 47 + 1) := Lib.hid (by rw [HT.out, if_pos h47])
            clear h47 HT
            generalize (s.take i).count 47 = q at *
            go_wp2_with fail
            exact ⟨⟨i + 1, by omega, by go_num, by rw [HT2.out]; go_num⟩, by simp [intOf]; omega⟩
          · have h47I : ((ch.toNat : Int) == 47) = false := by
              simp only [beq_eq_false_iff_ne, ne_eq]; intro h; exact h47 (UInt8.toNat_inj.1 (by show _ = 47; omega))
            have HT2 : Hid ((s.take (i + 1)).count 47 = (s.take i).count 47) := Lib.hid (by rw [HT.out, if_neg h47]; rfl)
            clear h47 HT
            generalize (s.take i).count 47 = q at *
            go_wp2_with fail
            exact ⟨⟨i + 1, by omega, by go_num, by rw [HT2.out]⟩, by simp [intOf]; omega⟩
        · obtain rfl : i = s.length := by omega
          rw [List.take_length]
          cases hc : segs st with
          | none =>
            have HC2 := Lib.hid (HC.out w3 (hm.st h3))
            rw [hc] at HC2
            clear hc
            go_wp2_with fail
            refine HC2.out.mono ?_
            rintro e w9 ⟨rfl, hq⟩
            have h9 := h3.past hq
            clear hq
            go_wp2
            go_ret
            exact ⟨rfl, h9.forget⟩
          | some cc =>
            have HC2 := Lib.hid (HC.out w3 (hm.st h3))
            rw [hc] at HC2
            have hcl := segs_small hc
            have hcl1 := hcl.1
            clear hc hcl
            go_wp2_with fail
            refine HC2.out.mono ?_
            rintro e w9 ⟨a9, c9, rfl, hq⟩
            have h9 := St.compR h3 hq
            clear hq
            go_wp2
            go_ret
            exact ⟨rfl, h9.forget⟩
    | some b =>
      have HB2 := Lib.hid (HB.out w2 (hm.st h2))
      rw [hb] at HB2
      clear hb
      go_wp2_with fail
      refine HB2.out.mono ?_
      rintro e w3 ⟨a3, c3, rfl, hq⟩
      have h3 := St.compR h2 hq
      clear hq
      go_wp2_with fail
      go_loop [9, 10] (fun nv iv => ∃ i : Nat, i ≤ s.length ∧ iv = .int .i64 i ∧ nv = .int .i64 ((s.take i).count 47 : Nat)) (fun _ iv => s.length - (intOf iv).toNat)
      case atStart => exact ⟨0, by omega, rfl, rfl⟩
      case round =>
        obtain ⟨i, hi, rfl, rfl⟩ := hrel
        by_cases hi2 : i < s.length
        · have hsz : i < (ByteArray.mk s.toArray).size := by simpa [ByteArray.size] using hi2
          have hget := get_byte s i hsz
          have hct := List.count_le_length (a := (47 : UInt8)) (l := s.take i)
          have hct2 : (s.take i).length ≤ s.length := by rw [List.length_take]; omega
          generalize hch : (ByteArray.mk s.toArray)[i]'hsz = ch at *
          have HT := Lib.hid (count_take s i ch hget)
          clear hget
          by_cases h47 : ch = 47
          · have h47I : ((ch.toNat : Int) == 47) = true := by rw [h47]; rfl
            have HT2 : Hid ((s.take (i + 1)).count 47 = (s.take i).count 47 + 1) := Lib.hid (by rw [HT.out, if_pos h47])
            clear h47 HT
            generalize (s.take i).count 47 = q at *
            go_wp2_with fail
            exact ⟨⟨i + 1, by omega, by go_num, by rw [HT2.out]; go_num⟩, by simp [intOf]; omega⟩
          · have h47I : ((ch.toNat : Int) == 47) = false := by
              simp only [beq_eq_false_iff_ne, ne_eq]; intro h; exact h47 (UInt8.toNat_inj.1 (by show _ = 47; omega))
            have HT2 : Hid ((s.take (i + 1)).count 47 = (s.take i).count 47) := Lib.hid (by rw [HT.out, if_neg h47]; rfl)
            clear h47 HT
            generalize (s.take i).count 47 = q at *
            go_wp2_with fail
            exact ⟨⟨i + 1, by omega, by go_num, by rw [HT2.out]⟩, by simp [intOf]; omega⟩
        · obtain rfl : i = s.length := by omega
          rw [List.take_length]
          cases hc : segs st with
          | none =>
            have HC2 := Lib.hid (HC.out w3 (hm.st h3))
            rw [hc] at HC2
            clear hc
            go_wp2_with fail
            refine HC2.out.mono ?_
            rintro e w9 ⟨rfl, hq⟩
            have h9 := h3.past hq
            clear hq
            go_wp2
            go_ret
            exact ⟨rfl, h9.forget⟩
          | some cc =>
            have HC2 := Lib.hid (HC.out w3 (hm.st h3))
            rw [hc] at HC2
            have hcl := segs_small hc
            have hcl1 := hcl.1
            clear hc hcl
            go_wp2_with fail
            refine HC2.out.mono ?_
            rintro e w9 ⟨a9, c9, rfl, hq⟩
            have h9 := St.compR h3 hq
            clear hq
            go_wp2
            go_ret
            exact ⟨rfl, h9.forget⟩
  | some a =>
    rw [ha] at HA
    have hal := (segs_small ha).1
    have hcn := segs_count ha
    have HCN := Lib.hid hcn
    have HSA := Lib.hid ha
    clear ha hcn
    go_wp2_with fail
    refine HA.out.mono ?_
    rintro e w2 ⟨a2, c2, rfl, hq⟩
    have h2 := St.compR h1 hq
    clear hq
    cases hb : segs t with
    | none =>
      have HB2 := Lib.hid (HB.out w2 (hm.st h2))
      rw [hb] at HB2
      clear hb
      go_wp2_with fail
      refine HB2.out.mono ?_
      rintro e w3 ⟨rfl, hq⟩
      have h3 := h2.past hq
      clear hq
      go_wp2_with fail
      go_loop [9, 10] (fun nv iv => ∃ i : Nat, i ≤ s.length ∧ iv = .int .i64 i ∧ nv = .int .i64 ((s.take i).count 47 : Nat)) (fun _ iv => s.length - (intOf iv).toNat)
      case atStart => exact ⟨0, by omega, rfl, rfl⟩
      case round =>
        obtain ⟨i, hi, rfl, rfl⟩ := hrel
        by_cases hi2 : i < s.length
        · have hsz : i < (ByteArray.mk s.toArray).size := by simpa [ByteArray.size] using hi2
          have hget := get_byte s i hsz
          have hct := List.count_le_length (a := (47 : UInt8)) (l := s.take i)
          have hct2 : (s.take i).length ≤ s.length := by rw [List.length_take]; omega
          generalize hch : (ByteArray.mk s.toArray)[i]'hsz = ch at *
          have HT := Lib.hid (count_take s i ch hget)
          clear hget
          by_cases h47 : ch = 47
          · have h47I : ((ch.toNat : Int) == 47) = true := by rw [h47]; rfl
            have HT2 : Hid ((s.take (i + 1)).count 47 = (s.take i).count 47 + 1) := Lib.hid (by rw [HT.out, if_pos h47])
            clear h47 HT
            generalize (s.take i).count 47 = q at *
            go_wp2_with fail
            exact ⟨⟨i + 1, by omega, by go_num, by rw [HT2.out]; go_num⟩, by simp [intOf]; omega⟩
          · have h47I : ((ch.toNat : Int) == 47) = false := by
              simp only [beq_eq_false_iff_ne, ne_eq]; intro h; exact h47 (UInt8.toNat_inj.1 (by show _ = 47; omega))
            have HT2 : Hid ((s.take (i + 1)).count 47 = (s.take i).count 47) := Lib.hid (by rw [HT.out, if_neg h47]; rfl)
            clear h47 HT
            generalize (s.take i).count 47 = q at *
            go_wp2_with fail
            exact ⟨⟨i + 1, by omega, by go_num, by rw [HT2.out]⟩, by simp [intOf]; omega⟩
        · obtain rfl : i = s.length := by omega
          rw [List.take_length]
          rw [← HCN.out]
          cases hc : segs st with
          | none =>
            have HC2 := Lib.hid (HC.out w3 (hm.st h3))
            rw [hc] at HC2
            clear hc
            go_wp2_with fail
            refine HC2.out.mono ?_
            rintro e w9 ⟨rfl, hq⟩
            have h9 := h3.past hq
            clear hq
            go_wp2
            go_ret
            exact ⟨rfl, h9.forget⟩
          | some cc =>
            have HC2 := Lib.hid (HC.out w3 (hm.st h3))
            rw [hc] at HC2
            have hcl := segs_small hc
            have hcl1 := hcl.1
            clear hc hcl
            go_wp2_with fail
            refine HC2.out.mono ?_
            rintro e w9 ⟨a9, c9, rfl, hq⟩
            have h9 := St.compR h3 hq
            clear hq
            go_wp2
            go_ret
            exact ⟨rfl, h9.forget⟩
    | some b =>
      have HB2 := Lib.hid (HB.out w2 (hm.st h2))
      rw [hb] at HB2
      have hbl := (segs_small hb).1
      have HSB := Lib.hid hb
      clear hb
      go_wp2_with fail
      refine HB2.out.mono ?_
      rintro e w3 ⟨a3, c3, rfl, hq⟩
      have h3 := St.compR h2 hq
      clear hq
      go_wp2_with fail
      go_loop [9, 10] (fun nv iv => ∃ i : Nat, i ≤ s.length ∧ iv = .int .i64 i ∧ nv = .int .i64 ((s.take i).count 47 : Nat)) (fun _ iv => s.length - (intOf iv).toNat)
      case atStart => exact ⟨0, by omega, rfl, rfl⟩
      case round =>
        obtain ⟨i, hi, rfl, rfl⟩ := hrel
        by_cases hi2 : i < s.length
        · have hsz : i < (ByteArray.mk s.toArray).size := by simpa [ByteArray.size] using hi2
          have hget := get_byte s i hsz
          have hct := List.count_le_length (a := (47 : UInt8)) (l := s.take i)
          have hct2 : (s.take i).length ≤ s.length := by rw [List.length_take]; omega
          generalize hch : (ByteArray.mk s.toArray)[i]'hsz = ch at *
          have HT := Lib.hid (count_take s i ch hget)
          clear hget
          by_cases h47 : ch = 47
          · have h47I : ((ch.toNat : Int) == 47) = true := by rw [h47]; rfl
            have HT2 : Hid ((s.take (i + 1)).count 47 = (s.take i).count 47 + 1) := Lib.hid (by rw [HT.out, if_pos h47])
            clear h47 HT
            generalize (s.take i).count 47 = q at *
            go_wp2_with fail
            exact ⟨⟨i + 1, by omega, by go_num, by rw [HT2.out]; go_num⟩, by simp [intOf]; omega⟩
          · have h47I : ((ch.toNat : Int) == 47) = false := by
              simp only [beq_eq_false_iff_ne, ne_eq]; intro h; exact h47 (UInt8.toNat_inj.1 (by show _ = 47; omega))
            have HT2 : Hid ((s.take (i + 1)).count 47 = (s.take i).count 47) := Lib.hid (by rw [HT.out, if_neg h47]; rfl)
            clear h47 HT
            generalize (s.take i).count 47 = q at *
            go_wp2_with fail
            exact ⟨⟨i + 1, by omega, by go_num, by rw [HT2.out]⟩, by simp [intOf]; omega⟩
        · obtain rfl : i = s.length := by omega
          rw [List.take_length]
          rw [← HCN.out]
          by_cases hl5 : 512 < st.length
          · have HC2 := Lib.hid (HC.out w3 (hm.st h3))
            rw [HLong.out hl5] at HC2
            go_wp2_with fail
            refine HC2.out.mono ?_
            rintro e w9 ⟨rfl, hq⟩
            have h9 := h3.past hq
            clear hq
            go_wp2
            go_ret
            exact ⟨rfl, h9.forget⟩
          · have HC2 := Lib.hid (HC.out w3 (hm.st h3))
            rw [HAPP.out a b HSA.out HSB.out (by omega)] at HC2
            have hnl : (a ++ b).length = a.length + b.length := by simp
            go_wp2_with fail
            refine HC2.out.mono ?_
            rintro e w9 ⟨a9, c9, rfl, hq⟩
            have h9 := St.compR h3 hq
            clear hq
            rw [hnl] at h9
            have hE := lit_sl h9 [] (by decide)
            go_wp2_with (at_builtin; refine wpList_append_SlG rfl (.tmp 75) (.tmp 76) 22 rfl 9 i9 _ 1 16 Tryd.underlying22 hi9 hs0 hs1 hs2 rfl _ 0 _ rfl hE _ a.length (strsV a) rfl hE.right.right.right.rowSl (strsV_one a) ?_ ?_ ?_)
            · unfold maxLen; omega
            · omega
            intro v1 w10 hF _
            obtain ⟨_, f1, fc1, rfl, _⟩ := id hF.rowSl
            go_wp2_with (at_builtin; refine wpList_append_SlG rfl (.tmp 77) (.tmp 78) 22 rfl 9 i9 _ 1 16 Tryd.underlying22 hi9 hs0 hs1 hs2 rfl _ a.length _ rfl hF _ b.length (strsV b) rfl hF.right.right.rowSl (strsV_one b) ?_ ?_ ?_)
            · unfold maxLen; omega
            · omega
            intro v2 w11 hG _
            obtain ⟨_, g1, gc1, rfl, _⟩ := id hG.rowSl
            have hGs := hG.rowSl
            rw [show strsV [] ++ (strsV a ++ strsV b) = strsV (a ++ b) from by simp [strsV]] at hGs
            have HSm := Lib.hid ((same_any (a ++ b) (a ++ b) _ a9 (a.length + b.length) c9 g1 (a.length + b.length) gc1 hnl hnl (by omega) hG.right.rowSl hGs).mono fun e w h => h.eq (v := .bool true) (by rw [decide_eq_true rfl]))
            go_wp2_with fail
            refine HSm.out.mono ?_
            rintro e w12 hq
            have h12 := hG.makes hq
            obtain ⟨rfl, -⟩ := hq
            go_wp2
            go_ret
            exact ⟨rfl, h12.forget⟩

end Go.Proofs.YtnfnplbojdmfmaaDoor.PathPt
