import Derived.Test.YthbfkconaofigaaB64Ref
namespace Go.Proofs.Ythbfkconaofigaa.B64RefD
open Go Go.RowKit Go.Proofs Go.Proofs.Ythbfkconaofigaa.Sep Go.Proofs.Ythbfkconaofigaa.Reg Go.Proofs.Ythbfkconaofigaa.Frame Go.Proofs.Ythbfkconaofigaa.B64Law Go.Proofs.Ythbfkconaofigaa.Bld Go.Proofs.Ythbfkconaofigaa.B64Enc Go.Proofs.Ythbfkconaofigaa.B64Val Go.Proofs.Ythbfkconaofigaa.B64Grp Go.Proofs.Ythbfkconaofigaa.B64Dec Go.Proofs.Ythbfkconaofigaa.B64RefP Go.Proofs.Ythbfkconaofigaa.B64Ref

/-- What the plain Decode hands back. -/
theorem strip_take (t : List UInt8) : strip t = t.take (strip t).length := by
  induction hn : t.length generalizing t with
  | zero => obtain rfl := List.eq_nil_of_length_eq_zero hn; rfl
  | succ n ih =>
    rcases List.eq_nil_or_concat t with rfl | ⟨z, c, rfl⟩
    · cases hn
    · rw [List.concat_eq_append] at *
      rw [strip_snoc]
      split
      · have h1 := ih z (by simpa using hn)
        have h2 : (strip z).length ≤ z.length := by rw [h1]; simp; omega
        rw [List.take_append_of_le_length h2]
        exact h1
      · rw [List.take_of_length_le (by simp)]
theorem strip_len (t : List UInt8) : (strip t).length ≤ t.length := by rw [strip_take t]; simp; omega
theorem grp8_drop (L : List Nat) (i : Nat) (h : i + 8 ≤ L.length) : grp8 (L.drop i) = numB ((L.drop i).take 8) :: grp8 (L.drop (i + 8)) := by
  rw [← List.drop_drop]
  have h2 : 8 ≤ (L.drop i).length := by simp; omega
  match L.drop i, h2 with
  | a :: b :: c :: d :: e :: f :: g :: h :: r, _ => rfl
theorem grp8_short (L : List Nat) (h : L.length < 8) : grp8 L = [] := by
  match L, h with
  | [], _ => rfl
  | [_], _ => rfl
  | [_, _], _ => rfl
  | [_, _, _], _ => rfl
  | [_, _, _, _], _ => rfl
  | [_, _, _, _, _], _ => rfl
  | [_, _, _, _, _, _], _ => rfl
  | [_, _, _, _, _, _, _], _ => rfl
  | _ :: _ :: _ :: _ :: _ :: _ :: _ :: _ :: _, h => simp at h; omega

theorem bitsL_none : ∀ (u : List UInt8) (c : UInt8), c ∈ u → val c = none → bitsL u = none
  | x :: u, c, h, hv => by
    rcases List.mem_cons.1 h with rfl | h
    · unfold bitsL; rw [hv]
    · unfold bitsL; rw [bitsL_none u c h hv]; split <;> simp_all
theorem bitsL_snoc : ∀ (u : List UInt8) (c : UInt8) (L : List Nat) (v : Nat), bitsL u = some L → val c = some v → bitsL (u ++ [c]) = some (L ++ bits6 v)
  | [], c, L, v, h, hv => by simp [bitsL] at h; subst h; simp [bitsL, hv]
  | x :: u, c, L, v, h, hv => by
    unfold bitsL at h
    split at h
    · rename_i n l h1 h2
      cases h
      show bitsL (x :: (u ++ [c])) = _
      unfold bitsL
      rw [h1, bitsL_snoc u c l v h2 hv]
      simp
    · cases h
def bit6 (v j : Nat) : Nat := v / 2 ^ (5 - j) % 2
theorem bits6_take (v : Nat) (j : Nat) (hj : j < 6) : (bits6 v).take (j + 1) = (bits6 v).take j ++ [bit6 v j] := by
  rcases (show j = 0 ∨ j = 1 ∨ j = 2 ∨ j = 3 ∨ j = 4 ∨ j = 5 by omega) with rfl | rfl | rfl | rfl | rfl | rfl <;> simp [bits6, bit6]
theorem bit6I (v j : Nat) : Value.int IntKind.i64 (((v : Int) / 2 ^ (5 - j)).tmod 2) = .int .i64 (bit6 v j : Nat) := by
  have h1 : ((v : Int) / 2 ^ (5 - j)) = ((v / 2 ^ (5 - j) : Nat) : Int) := by simp
  rw [h1]
  unfold bit6
  generalize v / 2 ^ (5 - j) = y
  congr 1
theorem bytes_ofNat (y : Nat) (h : y < 256) : bytesV [UInt8.ofNat y] = [Value.int .u8 (y : Int)] := by
  simp only [bytesV, List.map_cons, List.map_nil, List.cons.injEq, and_true]
  congr 1
  simp; omega
theorem ints_at {W w : World} {a : Option Addr} {m c : Nat} {L : List Nat} {R : Asn} (h : St W w (star (Row 3 1 (.slice a m c) m (intsV L)) R)) (hl : L.length = m) (hm : 0 < m) :
    ∃ ab, a = some ⟨ab, 0, none⟩ ∧ ∀ k x, L[k]? = some x → w.cell? ⟨ab, k, none⟩ = some (.int .i64 (x : Nat)) := by
  obtain ⟨_, hr⟩ := h.row
  rcases hr with ⟨h1, h2, _⟩ | ⟨g, cap, cur, h1, h2, h3, h4, h5, h6⟩
  · omega
  · cases h1
    refine ⟨g, rfl, fun k x hx => ?_⟩
    have hkm : k < m := by rw [← hl]; exact (List.getElem?_eq_some_iff.1 hx).1
    rw [cell_of_row w g k cur _ _ h6.blk]
    have : (intsV L)[k]? = some (.int .i64 (x : Nat)) := by rw [intsV_get, hx]; rfl
    rw [← h5, List.getElem?_take, if_pos (by omega)] at this
    simpa using this
set_option maxRecDepth 100000 in
set_option maxHeartbeats 8000000 in
theorem rDecode_any (t : List UInt8) (ht : t.length ≤ 10000) (w : World) : Calls Try.prog 16 #[.string ⟨t.toArray⟩] w (Makes w (decV t)) := by
  obtain ⟨i0, hi, hz0, hz1, hz2⟩ := info_parts infoI
  obtain ⟨i5, hi5, hy0, hy1, hy2⟩ := info_parts info5
  have h0 : St w w (star (Row 3 1 (.slice none 0 0) 0 (intsV [])) emp) := (St.start w).nilRow
  go_enter Try.func16, Try.ntmps16
  go_wp2_with fail
  go_loop [4] (fun ev => ∃ n : Nat, n ≤ t.length ∧ ev = .int .i64 n ∧ strip (t.take n) = strip t) (fun ev => (intOf ev).toNat)
  case atStart => exact ⟨t.length, by omega, rfl, by rw [List.take_length]⟩
  case round =>
    obtain ⟨n, hn, rfl, hstr⟩ := hrel
    have HSt := Lib.hid hstr
    clear hstr
    by_cases hp : 0 < n ∧ t[n - 1]? = some 61
    · obtain ⟨hp, h61⟩ := hp
      have hsz : n - 1 < (ByteArray.mk t.toArray).size := by simp [ByteArray.size]; omega
      have hb : (ByteArray.mk t.toArray)[n - 1]'hsz = 61 := by
        have : t[n - 1]? = some ((ByteArray.mk t.toArray)[n - 1]'hsz) := by rw [List.getElem?_eq_getElem (by simp [ByteArray.size] at hsz; omega)]; rfl
        rw [this] at h61
        simpa using h61
      have hbI : ((((ByteArray.mk t.toArray)[n - 1]'hsz).toNat : Int) == 61) = true := by rw [hb]; rfl
      have htk : strip (t.take (n - 1)) = strip t := by
        rw [← HSt.out]
        obtain ⟨k, rfl⟩ : ∃ k, n = k + 1 := ⟨n - 1, by omega⟩
        rw [List.take_add_one, show t[k]? = some 61 from h61]
        exact (strip_snoc _ _).symm ▸ rfl
      clear hb h61
      go_wp2_with fail
      exact ⟨⟨n - 1, by omega, int_eq (by omega), htk⟩, by simp [intOf]; omega⟩
    · have hu : t.take n = strip t := by
        rw [← HSt.out]
        rcases Nat.eq_zero_or_pos n with rfl | hn0
        · rfl
        · obtain ⟨k, rfl⟩ : ∃ k, n = k + 1 := ⟨n - 1, by omega⟩
          obtain ⟨x, hx⟩ : ∃ x, t[k]? = some x := ⟨_, List.getElem?_eq_getElem (by omega)⟩
          have hx61 : x ≠ 61 := by rintro rfl; exact hp ⟨by omega, hx⟩
          rw [List.take_add_one, hx]
          show _ = strip (_ ++ [x])
          rw [strip_snoc, if_neg hx61]; rfl
      have HU := Lib.hid hu
      clear hu
      -- the loop's test is no
      have hgo : 0 < n → ∀ hsz : n - 1 < (ByteArray.mk t.toArray).size, ((((ByteArray.mk t.toArray)[n - 1]'hsz).toNat : Int) == 61) = false := by
        intro h0 hsz
        have h1 : t[n - 1]? = some ((ByteArray.mk t.toArray)[n - 1]'hsz) := by rw [List.getElem?_eq_getElem (by simp [ByteArray.size] at hsz; omega)]; rfl
        simp only [beq_eq_false_iff_ne, ne_eq]
        intro h2
        refine hp ⟨h0, ?_⟩
        rw [h1]
        exact congrArg some (UInt8.toNat_inj.1 (by show _ = 61; omega))
      clear hp
      rcases Nat.eq_zero_or_pos n with hn0 | hn0
      case' neg.inl =>
        have hle : n ≤ 0 := by omega
        clear hn0 hgo
        go_wp2_with fail
        clear hle
      case' neg.inr =>
        have hsz : n - 1 < (ByteArray.mk t.toArray).size := by simp [ByteArray.size]; omega
        have hbI := hgo hn0 hsz
        clear hgo
        go_wp2_with fail
        clear hbI hsz
      all_goals
        go_loopw [5, 6] (fun bv iv wr => ∃ (i m : Nat) (a : Option Addr) (c : Nat) (L : List Nat), i ≤ n ∧ iv = .int .i64 i ∧ m = 6 * i ∧ bv = .slice a m c ∧ L.length = m ∧ (∀ x ∈ L, x ≤ 1) ∧ bitsL ((strip t).take i) = some L ∧ St w wr (star (Row 3 1 (.slice a m c) m (intsV L)) emp)) (fun _ iv _ => n - (intOf iv).toNat)
        case atStart => exact ⟨0, 0, none, 0, [], by omega, rfl, rfl, rfl, rfl, by simp, rfl, h0⟩
        case round =>
          obtain ⟨i, m, a, c, L, hin, rfl, hm, rfl, hLl, hL1, hbl, hS⟩ := hrel
          have HM := Lib.hid hm
          have hmb : m ≤ 60000 := by omega
          have HLL := Lib.hid hLl
          have HL1 := Lib.hid hL1
          have HBL := Lib.hid hbl
          clear hm hLl hL1 hbl
          by_cases hi2 : i < n
          · have hsz : i < (ByteArray.mk t.toArray).size := by simp [ByteArray.size]; omega
            have hci : (strip t)[i]? = some ((ByteArray.mk t.toArray)[i]'hsz) := by
              rw [← HU.out, List.getElem?_take, if_pos hi2, List.getElem?_eq_getElem (by omega)]; rfl
            have htk : (strip t).take (i + 1) = (strip t).take i ++ [(ByteArray.mk t.toArray)[i]'hsz] := by rw [List.take_add_one, hci]; rfl
            have hmem : (ByteArray.mk t.toArray)[i]'hsz ∈ strip t := List.mem_of_getElem? hci
            have HN := Lib.hid (number_any ((ByteArray.mk t.toArray)[i]'hsz) wr)
            have HT := Lib.hid htk
            have HMe := Lib.hid hmem
            clear htk hmem hci
            cases hv : val ((ByteArray.mk t.toArray)[i]'hsz) with
            | none =>
              have hni : numI ((ByteArray.mk t.toArray)[i]'hsz) = -1 := by unfold numI; rw [hv]
              rw [hni] at HN
              have hdv : decV t = .tuple #[.string ⟨#[]⟩, .bool false] := decV_none (by
                rw [← refDec_eq]; unfold refDec; rw [bitsL_none _ _ HMe.out hv])
              rw [hdv]
              clear hni hv hdv
              go_wp2_with fail
              all_goals
                refine HN.out.mono ?_
                rintro e w2 hq
                have h2 := hS.makes hq
                obtain ⟨rfl, -⟩ := hq
                go_wp2
                go_ret2
                exact ⟨rfl, h2.below⟩
            | some v =>
              have hni : numI ((ByteArray.mk t.toArray)[i]'hsz) = v := by unfold numI; rw [hv]
              rw [hni] at HN
              have hv64 := val_lt _ _ hv
              have HV := Lib.hid hv
              clear hni hv
              go_wp2_with fail
              all_goals
                refine HN.out.mono ?_
                rintro e w2 hq
                have h2 := hS.makes hq
                obtain ⟨rfl, -⟩ := hq
                go_wp2_with fail
                go_loopw [5, 8] (fun bv kv wr => ∃ (j mm : Nat) (a : Option Addr) (cc : Nat), j ≤ 6 ∧ kv = .int .i64 (5 - (j : Int)) ∧ mm = m + j ∧ bv = .slice a mm cc ∧ St w wr (star (Row 3 1 (.slice a mm cc) mm (intsV (L ++ (bits6 v).take j))) emp)) (fun _ kv _ => (intOf kv + 1).toNat)
                case atStart => exact ⟨0, m, a, c, by omega, rfl, rfl, rfl, by simpa using h2⟩
                case round =>
                  obtain ⟨j, mm, a2, c2, hj, rfl, hmm, rfl, hS2⟩ := hrel
                  have HMM := Lib.hid hmm
                  have hmmb : mm ≤ m + 6 := by omega
                  clear hmm
                  by_cases hj6 : j < 6
                  · have HBT := Lib.hid (bits6_take v j hj6)
                    go_wp2_with (at_builtin; refine wpList_append1 rfl (.tmp 41) (.tmp 47) 46 rfl 3 i0 _ 1 8 Try.underlying46 hi hz0 hz1 hz2 rfl _ mm _ rfl hS2 _ rfl rfl (by intro u hu; simp at hu; subst hu; rfl) (by unfold maxLen; omega) (by omega) ?_)
                    intro a3 c3 w3 hS3
                    go_wp2
                    refine ⟨⟨j + 1, _, _, _, by omega, int_eq (by omega), by have := HMM.out; omega, rfl, ?_⟩, by simp [intOf]; omega⟩
                    rw [HBT.out, ← List.append_assoc, intsV_append, intsV_one, ← bit6I]
                    exact hS3
                  · obtain rfl : j = 6 := by omega
                    go_wp2
                    refine ⟨⟨i + 1, mm, a2, c2, L ++ bits6 v, by omega, by go_num, by have := HM.out; have := HMM.out; omega, rfl, by simp [bits6, HLL.out, HMM.out], ?_, ?_, by simpa [bits6] using hS2⟩, by simp [intOf]; omega⟩
                    · intro x hx
                      rcases List.mem_append.1 hx with h | h
                      · exact HL1.out x h
                      · simp only [bits6, List.mem_cons, List.not_mem_nil, or_false] at h; omega
                    · rw [HT.out]; exact bitsL_snoc _ _ _ _ HBL.out HV.out
          · obtain rfl : i = n := by omega
            have hbl : bitsL (strip t) = some L := by
              have := HBL.out
              rwa [List.take_of_length_le (by rw [← HU.out]; simp; omega)] at this
            have hrd : refDec t = if enc ((grp8 L).map UInt8.ofNat) = t then some ((grp8 L).map UInt8.ofNat) else none := by unfold refDec; rw [hbl]
            rw [refDec_eq] at hrd
            have HRD := Lib.hid hrd
            clear hbl hrd
            have hSo : St w wr (star (Row 5 1 (.slice none 0 0) 0 (bytesV [])) (star (Row 3 1 (.slice a m c) m (intsV L)) emp)) := hS.nilRow
            go_wp2_with fail
            go_loopw [9, 10] (fun ov iv wr => ∃ (p q : Nat) (b : Option Addr) (cc : Nat) (o : List UInt8), p ≤ m ∧ iv = .int .i64 p ∧ q ≤ p ∧ q = o.length ∧ ov = .slice b q cc ∧ o ++ (grp8 (L.drop p)).map UInt8.ofNat = (grp8 L).map UInt8.ofNat ∧
              St w wr (star (Row 5 1 (.slice b q cc) q (bytesV o)) (star (Row 3 1 (.slice a m c) m (intsV L)) emp))) (fun _ iv _ => m - (intOf iv).toNat)
            case atStart => exact ⟨0, 0, none, 0, [], by omega, rfl, by omega, rfl, rfl, rfl, hSo⟩
            case round =>
              obtain ⟨p, q, b, c4, o, hpm, rfl, hqp, hqo, rfl, hG, hS4⟩ := hrel
              have HQ := Lib.hid hqo
              have HG := Lib.hid hG
              clear hqo hG
              by_cases hp8 : p + 8 ≤ m
              · have hgd := grp8_drop L p (by rw [HLL.out]; exact hp8)
                obtain ⟨lo, hloc⟩ : ∃ ab, a = some ⟨ab, 0, none⟩ ∧ ∀ k x, L[k]? = some x → wr.cell? ⟨ab, k, none⟩ = some (.int .i64 (x : Nat)) := ints_at hS4.right HLL.out (by omega)
                obtain ⟨rfl, hcell⟩ := hloc
                have HC := Lib.hid hcell
                have HGD := Lib.hid hgd
                clear hcell hgd
                go_wp2_with fail
                go_loop [11, 12] (fun nv kv => ∃ k : Nat, k ≤ 8 ∧ kv = .int .i64 k ∧ nv = .int .i64 (numB ((L.drop p).take k) : Nat)) (fun _ kv => 8 - (intOf kv).toNat)
                case atStart => exact ⟨0, by omega, rfl, rfl⟩
                case round =>
                  obtain ⟨k, hk, rfl, rfl⟩ := hrel
                  have hnb : numB ((L.drop p).take k) < 2 ^ k := numB_lt k _ (by rw [List.length_take, List.length_drop, HLL.out]; omega) (fun x hx => HL1.out x (List.mem_of_mem_drop (List.mem_of_mem_take hx)))
                  have hnb2 : numB ((L.drop p).take k) < 256 := Nat.lt_of_lt_of_le hnb (Nat.pow_le_pow_right (by decide) hk)
                  clear hnb
                  by_cases hk6 : k < 8
                  · obtain ⟨x, hx⟩ : ∃ x, L[p + k]? = some x := ⟨_, List.getElem?_eq_getElem (by rw [HLL.out]; omega)⟩
                    have hx1 := HL1.out x (List.mem_of_getElem? hx)
                    have hcx := HC.out _ _ hx
                    have hsn : numB ((L.drop p).take (k + 1)) = 2 * numB ((L.drop p).take k) + x := by
                      rw [List.take_add_one, List.getElem?_drop, hx]; exact numB_snoc _ _
                    have HSN := Lib.hid hsn
                    clear hsn hx
                    generalize numB ((L.drop p).take k) = y at *
                    go_wp2_with fail
                    refine ⟨⟨k + 1, by omega, by go_num, ?_⟩, by simp [intOf]; omega⟩
                    rw [HSN.out]
                    go_num
                  · obtain rfl : k = 8 := by omega
                    generalize hy : numB ((L.drop p).take 8) = y at *
                    have HY := Lib.hid hy
                    clear hy
                    go_wp2_with (at_builtin; refine wpList_append1 rfl (.tmp 69) (.tmp 72) 29 rfl 5 i5 _ 1 1 Try.underlying29 hi5 hy0 hy1 hy2 rfl _ q _ rfl hS4 _ rfl rfl (by intro u hu; simp at hu; subst hu; rfl) (by unfold maxLen; omega) (by omega) ?_)
                    intro a5 c5 w5 hS5
                    go_wp2
                    refine ⟨⟨p + 8, q + 1, _, _, o ++ [UInt8.ofNat y], by omega, by go_num, by omega, by simp [HQ.out], rfl, ?_, ?_⟩, by simp [intOf]; omega⟩
                    · rw [← HG.out, HGD.out]; simp
                    · rw [bytesV_append, bytes_ofNat y hnb2]; exact hS5
              · have hoo : o = (grp8 L).map UInt8.ofNat := by
                  have := HG.out
                  rw [grp8_short _ (by rw [List.length_drop, HLL.out]; omega)] at this
                  simpa using this
                have hob : o.length ≤ 60000 := by rw [← HQ.out]; omega
                have HRD2 : Hid (dec t = if enc o = t then some o else none) := Lib.hid (by rw [HRD.out, ← hoo])
                clear hoo
                have hcv := run_string_of (P := Try.prog) hS4.rowSl 29 9 5 Try.underlying29 Try.underlying5 Try.underlying9
                have HE := Lib.hid fun w => rEncode_any o (by omega) w
                rw [refEnc_eq] at HE
                go_wp2_with fail
                refine (HE.out _).mono ?_
                rintro e w7 hq
                have h7 := hS4.makes hq
                obtain ⟨rfl, -⟩ := hq
                by_cases het : enc o = t
                · have hdv : decV t = .tuple #[.string ⟨o.toArray⟩, .bool true] := decV_some (by rw [HRD2.out, if_pos het])
                  have HDV := Lib.hid hdv
                  have hcv7 := run_string_of (P := Try.prog) h7.rowSl 29 9 5 Try.underlying29 Try.underlying5 Try.underlying9
                  clear hcv hdv
                  rw [het]
                  clear het
                  go_wp2
                  go_ret2
                  exact ⟨congrArg Ending.returned HDV.out.symm, h7.below⟩
                · have hdv : decV t = .tuple #[.string ⟨#[]⟩, .bool false] := decV_none (by rw [HRD2.out, if_neg het])
                  have HDV := Lib.hid hdv
                  have hneb : (enc o == t) = false := by simpa using het
                  have hneb2 : (enc o != t) = true := by simp [bne, hneb]
                  clear hcv hdv het
                  generalize enc o = eo at *
                  go_wp2
                  go_ret2
                  exact ⟨congrArg Ending.returned HDV.out.symm, h7.below⟩

end Go.Proofs.Ythbfkconaofigaa.B64RefD
