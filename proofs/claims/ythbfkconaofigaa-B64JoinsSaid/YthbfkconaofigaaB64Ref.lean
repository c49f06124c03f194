import Derived.Test.YthbfkconaofigaaB64Laws
import Derived.Test.YthbfkconaofigaaB64RefP
namespace Go.Proofs.Ythbfkconaofigaa.B64Ref
open Go Go.RowKit Go.Proofs Go.Proofs.Ythbfkconaofigaa.Sep Go.Proofs.Ythbfkconaofigaa.Reg Go.Proofs.Ythbfkconaofigaa.Frame Go.Proofs.Ythbfkconaofigaa.B64Law Go.Proofs.Ythbfkconaofigaa.Bld Go.Proofs.Ythbfkconaofigaa.B64Enc Go.Proofs.Ythbfkconaofigaa.B64Val Go.Proofs.Ythbfkconaofigaa.B64Grp Go.Proofs.Ythbfkconaofigaa.B64Dec Go.Proofs.Ythbfkconaofigaa.B64RefP

theorem infoI : (Try.prog.info? 3).map (fun i => (i.zero, i.size, i.bytes)) = some (some (.int .i64 0), 1, 8) := by kernel_rfl

theorem let_low : ∀ n, n < 26 → (let_ n).toNat = 65 + n := by decide
theorem let_mid : ∀ n, n < 52 → 26 ≤ n → (let_ n).toNat = 71 + n := by decide
theorem let_dig : ∀ n, n < 62 → 52 ≤ n → (let_ n).toNat + 4 = n := by decide
theorem letter_any (n : Nat) (w : World) (hn : n < 64) : Calls Try.prog 41 #[.int .i64 (n : Int)] w (Makes w (.int .u8 (let_ n).toNat)) := by
  by_cases h1 : n < 26
  · have e := let_low n h1
    go_enter Try.func41, Try.ntmps41
    go_wp2
    go_ret
    exact (Makes.mk0 _ _).eq (int_eq (by omega))
  by_cases h2 : n < 52
  · have e := let_mid n h2 (by omega)
    go_enter Try.func41, Try.ntmps41
    go_wp2
    go_ret
    exact (Makes.mk0 _ _).eq (int_eq (by omega))
  by_cases h3 : n < 62
  · have e := let_dig n h3 (by omega)
    go_enter Try.func41, Try.ntmps41
    go_wp2
    go_ret
    exact (Makes.mk0 _ _).eq (int_eq (by omega))
  rcases (show n = 62 ∨ n = 63 by omega) with rfl | rfl
  · go_enter Try.func41, Try.ntmps41
    go_wp2
    go_ret
    exact (Makes.mk0 _ _).eq (int_eq (by decide))
  · go_enter Try.func41, Try.ntmps41
    go_wp2
    go_ret
    exact (Makes.mk0 _ _).eq (int_eq (by decide))

def numI (c : UInt8) : Int := match val c with | some n => (n : Int) | none => -1
theorem val_least : ∀ k : Fin 256, ∀ m : Fin 64, (let_ m == UInt8.ofNat k) = true → val (UInt8.ofNat k) = some m.val := by decide +kernel
theorem val_none : ∀ k : Fin 256, (∀ m : Fin 64, (let_ m == UInt8.ofNat k) = false) → val (UInt8.ofNat k) = none := by decide +kernel
set_option maxRecDepth 100000 in
set_option maxHeartbeats 1600000 in
theorem number_any (c : UInt8) (w : World) : Calls Try.prog 40 #[.int .u8 c.toNat] w (Makes w (.int .i64 (numI c))) := by
  have h0 := St.start w
  go_enter Try.func40, Try.ntmps40
  go_wp2_with fail
  go_loopw [3] (fun nv wr => ∃ n : Nat, n ≤ 64 ∧ nv = .int .i64 n ∧ (∀ m, m < n → (let_ m == c) = false) ∧ St w wr emp) (fun nv _ => 64 - (intOf nv).toNat)
  case atStart => exact ⟨0, by omega, rfl, fun m h => by omega, h0⟩
  case round =>
    obtain ⟨n, hn, rfl, hm, hS⟩ := hrel
    have HM := Lib.hid hm
    clear hm
    by_cases hn2 : n < 64
    · have HL := Lib.hid (letter_any n wr hn2)
      generalize hq : let_ n = q at *
      have HQ := Lib.hid hq
      clear hq
      cases hb : (q == c)
      · have hbI : ((q.toNat : Int) == (c.toNat : Int)) = false := by
          simp at hb ⊢
          intro h
          exact hb (UInt8.toNat_inj.1 (by omega))
        have HB := Lib.hid hb
        clear hb
        go_wp2_with fail
        refine HL.out.mono ?_
        rintro e w2 hq
        have h2 := hS.makes hq
        obtain ⟨rfl, -⟩ := hq
        go_wp2
        refine ⟨⟨n + 1, by omega, by go_num, fun m hm => ?_, h2⟩, by simp [intOf]; omega⟩
        by_cases hmn : m = n
        · rw [hmn, HQ.out]; exact HB.out
        · exact HM.out m (by omega)
      · have hbI : ((q.toNat : Int) == (c.toNat : Int)) = true := by
          simp at hb ⊢
          rw [hb]
        have hv : numI c = n := by
          have := val_least ⟨c.toNat, c.toNat_lt⟩ ⟨n, hn2⟩ (by simpa [HQ.out] using hb)
          simp at this
          unfold numI
          rw [this]
        rw [hv]
        clear hb hv
        go_wp2_with fail
        refine HL.out.mono ?_
        rintro e w2 hq
        have h2 := hS.makes hq
        obtain ⟨rfl, -⟩ := hq
        go_wp2
        go_ret
        exact ⟨rfl, h2.below⟩
    · obtain rfl : n = 64 := by omega
      have hv : numI c = -1 := by
        have := val_none ⟨c.toNat, c.toNat_lt⟩ (fun m => by simpa using HM.out m.val m.isLt)
        simp at this
        unfold numI
        rw [this]
      have hS' : Makes w (.int .i64 (numI c)) (.returned (.int .i64 (-1))) wr := ⟨by rw [hv], hS.below⟩
      clear hv
      go_wp2
      go_ret
      exact hS'

def bitAt (c : UInt8) (j : Nat) : Nat := c.toNat / 2 ^ (7 - j) % 2
theorem bits8_take (c : UInt8) (j : Nat) (hj : j < 8) : (bits8 c).take (j + 1) = (bits8 c).take j ++ [bitAt c j] := by
  rcases (show j = 0 ∨ j = 1 ∨ j = 2 ∨ j = 3 ∨ j = 4 ∨ j = 5 ∨ j = 6 ∨ j = 7 by omega) with rfl | rfl | rfl | rfl | rfl | rfl | rfl | rfl <;> simp [bits8, bitAt]
theorem bits_le : ∀ (s : List UInt8), ∀ x ∈ bitsOf s, x ≤ 1 := by
  intro s x hx
  obtain ⟨c, _, hc⟩ := List.mem_flatMap.1 hx
  simp only [bits8, List.mem_cons, List.not_mem_nil, or_false] at hc
  omega

theorem bitI (c : UInt8) (j : Nat) : Value.int IntKind.i64 ((wrap64 (c.toNat : Int) / 2 ^ (7 - j)).tmod 2) = .int .i64 (bitAt c j : Nat) := by
  have hc := c.toNat_lt
  rw [show wrap64 (c.toNat : Int) = (c.toNat : Int) from IntWalk.wrap64_in _ ⟨by omega, by omega⟩]
  have h1 : ((c.toNat : Int) / 2 ^ (7 - j)) = ((c.toNat / 2 ^ (7 - j) : Nat) : Int) := by simp
  rw [h1]
  unfold bitAt
  generalize c.toNat / 2 ^ (7 - j) = y
  congr 1
theorem intsV_one (n : Nat) : intsV [n] = [Value.int IntKind.i64 (n : Int)] := rfl
def slLen : Value → Nat
  | .slice _ n _ => n
  | _ => 0
theorem numB_snoc (l : List Nat) (x : Nat) : numB (l ++ [x]) = 2 * numB l + x := by simp [numB]
theorem numB_lt : ∀ (n : Nat) (l : List Nat), l.length = n → (∀ x ∈ l, x ≤ 1) → numB l < 2 ^ n
  | 0, l, hn, _ => by obtain rfl := List.eq_nil_of_length_eq_zero hn; simp [numB]
  | n + 1, l, hn, h => by
    rcases List.eq_nil_or_concat l with rfl | ⟨z, c, rfl⟩
    · simp at hn
    · rw [List.concat_eq_append] at *
      have h1 := numB_lt n z (by simpa using hn) (fun x hx => h x (by simp [hx]))
      have h2 := h c (by simp)
      rw [numB_snoc, Nat.pow_succ]
      omega
theorem grp6_drop (L : List Nat) (i : Nat) (h : i + 6 ≤ L.length) : grp6 (L.drop i) = numB ((L.drop i).take 6) :: grp6 (L.drop (i + 6)) := by
  rw [← List.drop_drop]
  have h2 : 6 ≤ (L.drop i).length := by simp; omega
  match L.drop i, h2 with
  | a :: b :: c :: d :: e :: f :: r, _ => rfl
set_option maxRecDepth 100000 in
set_option maxHeartbeats 4000000 in
theorem rEncode_any (s : List UInt8) (hs : s.length ≤ 100000) (w : World) : Calls Try.prog 17 #[.string ⟨s.toArray⟩] w (Makes w (.string ⟨(refEnc s).toArray⟩)) := by
  obtain ⟨i0, hi, hz0, hz1, hz2⟩ := info_parts infoI
  obtain ⟨i5, hi5, hy0, hy1, hy2⟩ := info_parts info5
  have h0 : St w w (star (Row 3 1 (.slice none 0 0) 0 (intsV [])) emp) := (St.start w).nilRow
  have HB := Lib.hid (bitsOf_length s)
  go_enter Try.func17, Try.ntmps17
  go_wp2_with fail
  go_loopw [3, 4] (fun bv iv wr => ∃ (i m : Nat) (a : Option Addr) (c : Nat), i ≤ s.length ∧ iv = .int .i64 i ∧ m = 8 * i ∧ bv = .slice a m c ∧ St w wr (star (Row 3 1 (.slice a m c) m (intsV (bitsOf (s.take i)))) emp)) (fun _ iv _ => s.length - (intOf iv).toNat)
  case atStart => exact ⟨0, 0, none, 0, by omega, rfl, rfl, rfl, h0⟩
  case round =>
    obtain ⟨i, m, a, c, hil, rfl, hm, rfl, hS⟩ := hrel
    have HM := Lib.hid hm
    have hm8 : m ≤ 8 * s.length := by omega
    clear hm
    by_cases hi2 : i < s.length
    · have hsz : i < (ByteArray.mk s.toArray).size := by simpa [ByteArray.size] using hi2
      have hci : s[i]? = some ((ByteArray.mk s.toArray)[i]'hsz) := by rw [List.getElem?_eq_getElem hi2]; rfl
      have htk : s.take (i + 1) = s.take i ++ [(ByteArray.mk s.toArray)[i]'hsz] := by rw [List.take_add_one, hci]; rfl
      have htb : bitsOf (s.take (i + 1)) = bitsOf (s.take i) ++ bits8 ((ByteArray.mk s.toArray)[i]'hsz) := by rw [htk]; simp [bitsOf]
      have HT := Lib.hid htb
      clear hci htk htb
      generalize bitsOf (s.take i) = bs at *
      go_wp2_with fail
      go_loopw [3, 5] (fun bv kv wr => ∃ (j mm : Nat) (a : Option Addr) (cc : Nat), j ≤ 8 ∧ kv = .int .i64 (7 - (j : Int)) ∧ mm = m + j ∧ bv = .slice a mm cc ∧ St w wr (star (Row 3 1 (.slice a mm cc) mm (intsV (bs ++ (bits8 ((ByteArray.mk s.toArray)[i]'hsz)).take j))) emp)) (fun _ kv _ => (intOf kv + 1).toNat)
      case atStart => exact ⟨0, m, a, c, by omega, rfl, rfl, rfl, by simpa using hS⟩
      case round =>
        obtain ⟨j, mm, a2, c2, hj, rfl, hmm, rfl, hS2⟩ := hrel
        by_cases hj8 : j < 8
        · have hbt := bits8_take ((ByteArray.mk s.toArray)[i]'hsz) j hj8
          go_wp2_with (at_builtin; refine wpList_append1 rfl (.tmp 20) (.tmp 29) 46 rfl 3 i0 _ 1 8 Try.underlying46 hi hz0 hz1 hz2 rfl _ mm _ rfl hS2 _ rfl rfl (by intro u hu; simp at hu; subst hu; rfl) (by unfold maxLen; omega) (by omega) ?_)
          intro a3 c3 w3 hS3
          go_wp2
          refine ⟨⟨j + 1, _, _, _, by omega, int_eq (by omega), rfl, rfl, ?_⟩, by simp [intOf]; omega⟩
          rw [bitI, ← intsV_one, ← intsV_append, List.append_assoc, ← hbt] at hS3
          exact hS3
        · obtain rfl : j = 8 := by omega
          go_wp2
          refine ⟨⟨i + 1, mm, a2, c2, by omega, by go_num, by have := HM.out; omega, rfl, ?_⟩, by simp [intOf]; omega⟩
          rw [HT.out]
          exact hS2
    · obtain rfl : i = s.length := by omega
      rw [List.take_length] at hS
      have hml : m = (bitsOf s).length := by rw [HB.out, HM.out]
      have hmM : m = 8 * s.length := HM.out
      have HL1 := Lib.hid (bits_le s)
      generalize hbsE : bitsOf s = bs at *
      have HBS := Lib.hid hbsE
      clear hbsE
      have HML := Lib.hid hml
      have HMM := Lib.hid hmM
      clear hml hmM
      obtain ⟨Z, hZ⟩ : ∃ Z, (6 - m % 6) % 6 = Z := ⟨_, rfl⟩
      have hZ5 : Z ≤ 5 := by omega
      have hZm : (m + Z) % 6 = 0 := by omega
      have hZn : ∀ z, z < Z → ¬ (m + z) % 6 = 0 := by intro z hz; omega
      have HZN := Lib.hid hZn
      have HZM := Lib.hid hZm
      have HZ := Lib.hid hZ
      clear hZ hZm hZn
      go_wp2_with fail
      go_loopw [3] (fun bv wr => ∃ (z mm : Nat) (a : Option Addr) (cc : Nat), z ≤ Z ∧ mm = m + z ∧ bv = .slice a mm cc ∧ St w wr (star (Row 3 1 (.slice a mm cc) mm (intsV (bs ++ List.replicate z 0))) emp)) (fun bv _ => m + 6 - slLen bv)
      case atStart => exact ⟨0, m, a, c, by omega, rfl, rfl, by simpa using hS⟩
      case round =>
        obtain ⟨z, mm, a2, c2, hz, hmm, rfl, hS2⟩ := hrel
        by_cases hzZ : z < Z
        · have hne : ((mm : Int) % 6 != 0) = true := by have := HZN.out z hzZ; simp; omega
          have HMm := Lib.hid hmm
          have hmb : mm ≤ m + 5 := by omega
          clear hmm
          go_wp2_with (at_builtin; refine wpList_append1 rfl (.tmp 35) (.tmp 36) 46 rfl 3 i0 _ 1 8 Try.underlying46 hi hz0 hz1 hz2 rfl _ mm _ rfl hS2 _ rfl rfl (by intro u hu; simp at hu; subst hu; rfl) (by unfold maxLen; omega) (by omega) ?_)
          intro a3 c3 w3 hS3
          have hmm3 : mm + 1 = m + (z + 1) := by have := HMm.out; omega
          have HM3 := Lib.hid hmm3
          clear hmm3
          go_wp2
          refine ⟨⟨z + 1, _, _, _, by omega, HM3.out, rfl, ?_⟩, by simp [slLen]; omega⟩
          rw [show [Value.int IntKind.i64 0] = intsV [0] from rfl, ← intsV_append, List.append_assoc, ← List.replicate_succ'] at hS3
          exact hS3
        · obtain rfl : z = Z := by omega
          have hne : ((mm : Int) % 6 != 0) = false := by have := HZM.out; simp; omega
          have HMm := Lib.hid hmm
          have hmb : mm ≤ m + 5 := by omega
          clear hmm
          have HLd : Hid (bs ++ List.replicate z 0 = pad6 bs) := Lib.hid (by unfold pad6; rw [← HZ.out, HML.out])
          have hLle : ∀ x ∈ bs ++ List.replicate z 0, x ≤ 1 := by
            intro x hx
            rcases List.mem_append.1 hx with h | h
            · exact HL1.out x h
            · rw [(List.mem_replicate.1 h).2]; omega
          have hLlen : (bs ++ List.replicate z 0).length = mm := by simp [← HML.out, HMm.out]
          have hm6 : mm % 6 = 0 := by have := HZM.out; have := HMm.out; omega
          generalize bs ++ List.replicate z 0 = L at *
          have HLL := Lib.hid hLlen
          have HLle := Lib.hid hLle
          have HM6 := Lib.hid hm6
          clear hLlen hLle hm6
          have hSo : St w wr (star (Row 5 1 (.slice none 0 0) 0 (bytesV [])) (star (Row 3 1 (.slice a2 mm c2) mm (intsV L)) emp)) := hS2.nilRow
          go_wp2_with fail
          go_loopw [6, 7] (fun ov iv wr => ∃ (i q : Nat) (a : Option Addr) (cc : Nat) (o : List UInt8), i ≤ mm ∧ iv = .int .i64 i ∧ i % 6 = 0 ∧ q ≤ i ∧ q = o.length ∧ ov = .slice a q cc ∧ o ++ (grp6 (L.drop i)).map let_ = (grp6 L).map let_ ∧
            St w wr (star (Row 5 1 (.slice a q cc) q (bytesV o)) (star (Row 3 1 (.slice a2 mm c2) mm (intsV L)) emp))) (fun _ iv _ => mm - (intOf iv).toNat)
          case atStart => exact ⟨0, 0, none, 0, [], by omega, rfl, rfl, by omega, rfl, rfl, rfl, hSo⟩
          case round =>
            obtain ⟨i, q, a4, c4, o, him, rfl, hi6, hqi, hqo, rfl, hG, hS4⟩ := hrel
            have HI6 := Lib.hid hi6
            have HQ := Lib.hid hqo
            have HG := Lib.hid hG
            clear hi6 hqo hG
            by_cases hi2 : i < mm
            · have hi66 : i + 6 ≤ mm := by have := HI6.out; have := HM6.out; omega
              have hgd := grp6_drop L i (by rw [HLL.out]; exact hi66)
              obtain ⟨lo, hloc⟩ : ∃ ab, a2 = some ⟨ab, 0, none⟩ ∧ ∀ k x, L[k]? = some x → wr.cell? ⟨ab, k, none⟩ = some (.int .i64 (x : Nat)) := by
                have hrow := hS4.right
                obtain ⟨_, hr⟩ := hrow.row
                rcases hr with ⟨h1, h2, _⟩ | ⟨g, cap, cur, h1, h2, h3, h4, h5, h6⟩
                · omega
                · cases h1
                  refine ⟨g, rfl, fun k x hx => ?_⟩
                  have hkm : k < mm := by rw [← HLL.out]; exact (List.getElem?_eq_some_iff.1 hx).1
                  rw [cell_of_row wr g k cur _ _ h6.blk]
                  have : (intsV L)[k]? = some (.int .i64 (x : Nat)) := by rw [intsV_get, hx]; rfl
                  rw [← h5, List.getElem?_take, if_pos (by omega)] at this
                  simpa using this
              obtain ⟨rfl, hcell⟩ := hloc
              have HC := Lib.hid hcell
              have HGD := Lib.hid hgd
              clear hcell hgd
              go_wp2_with fail
              go_loop [8, 9] (fun nv kv => ∃ k : Nat, k ≤ 6 ∧ kv = .int .i64 k ∧ nv = .int .i64 (numB ((L.drop i).take k) : Nat)) (fun _ kv => 6 - (intOf kv).toNat)
              case atStart => exact ⟨0, by omega, rfl, rfl⟩
              case round =>
                obtain ⟨k, hk, rfl, rfl⟩ := hrel
                have hnb : numB ((L.drop i).take k) < 2 ^ k := numB_lt k _ (by rw [List.length_take, List.length_drop, HLL.out]; omega) (fun x hx => HLle.out x (List.mem_of_mem_drop (List.mem_of_mem_take hx)))
                have hnb2 : numB ((L.drop i).take k) < 64 := Nat.lt_of_lt_of_le hnb (Nat.pow_le_pow_right (by decide) hk)
                clear hnb
                by_cases hk6 : k < 6
                · obtain ⟨x, hx⟩ : ∃ x, L[i + k]? = some x := ⟨_, List.getElem?_eq_getElem (by rw [HLL.out]; omega)⟩
                  have hx1 := HLle.out x (List.mem_of_getElem? hx)
                  have hcx := HC.out _ _ hx
                  have hsn : numB ((L.drop i).take (k + 1)) = 2 * numB ((L.drop i).take k) + x := by
                    rw [List.take_add_one, List.getElem?_drop, hx]; exact numB_snoc _ _
                  have HSN := Lib.hid hsn
                  clear hsn hx
                  generalize numB ((L.drop i).take k) = y at *
                  go_wp2_with fail
                  refine ⟨⟨k + 1, by omega, by go_num, ?_⟩, by simp [intOf]; omega⟩
                  rw [HSN.out]
                  go_num
                · obtain rfl : k = 6 := by omega
                  generalize hy : numB ((L.drop i).take 6) = y at *
                  have HY := Lib.hid hy
                  clear hy
                  have HLet := Lib.hid (letter_any y wr hnb2)
                  have hqb : q ≤ 8000000 := by omega
                  go_wp2_with fail
                  refine HLet.out.mono ?_
                  rintro e w2 hq
                  have h2 := hS4.makes hq
                  obtain ⟨rfl, -⟩ := hq
                  go_wp2_with (at_builtin; refine wpList_append1 rfl (.tmp 57) (.tmp 60) 29 rfl 5 i5 _ 1 1 Try.underlying29 hi5 hy0 hy1 hy2 rfl _ q _ rfl h2 _ rfl rfl (by intro u hu; simp at hu; subst hu; rfl) (by unfold maxLen; omega) (by omega) ?_)
                  intro a5 c5 w5 hS5
                  go_wp2
                  refine ⟨⟨i + 6, q + 1, _, _, o ++ [let_ y], by omega, by go_num, by have := HI6.out; omega, by omega, by simp [HQ.out], rfl, ?_, ?_⟩, by simp [intOf]; omega⟩
                  · rw [← HG.out, HGD.out]; simp
                  · rw [bytesV_append]; exact hS5
            · obtain rfl : i = mm := by omega
              have hoo : o = (grp6 L).map let_ := by
                have := HG.out
                rw [List.drop_of_length_le (by rw [HLL.out]; omega)] at this
                simpa [grp6] using this
              have HO := Lib.hid hoo
              clear hoo
              obtain ⟨Y, hY⟩ : ∃ Y, (4 - q % 4) % 4 = Y := ⟨_, rfl⟩
              have hY5 : Y ≤ 3 := by omega
              have hYm : (q + Y) % 4 = 0 := by omega
              have hYn : ∀ z, z < Y → ¬ (q + z) % 4 = 0 := by intro z hz; omega
              have HYN := Lib.hid hYn
              have HYM := Lib.hid hYm
              have HY := Lib.hid hY
              clear hY hYm hYn
              have hqb : q ≤ 8000000 := by omega
              go_wp2_with fail
              go_loopw [6] (fun bv wr => ∃ (z qq : Nat) (a : Option Addr) (cc : Nat), z ≤ Y ∧ qq = q + z ∧ bv = .slice a qq cc ∧ St w wr (star (Row 5 1 (.slice a qq cc) qq (bytesV (o ++ List.replicate z 61))) (star (Row 3 1 (.slice a2 i c2) i (intsV L)) emp))) (fun bv _ => q + 4 - slLen bv)
              case atStart => exact ⟨0, q, a4, c4, by omega, rfl, rfl, by simpa using hS4⟩
              case round =>
                obtain ⟨z, qq, a6, c6, hz, hqq, rfl, hS6⟩ := hrel
                have HQQ := Lib.hid hqq
                have hqb2 : qq ≤ q + 3 := by omega
                clear hqq
                by_cases hzY : z < Y
                · have hne : ((qq : Int) % 4 != 0) = true := by have := HYN.out z hzY; have := HQQ.out; simp; omega
                  go_wp2_with (at_builtin; refine wpList_append1 rfl (.tmp 66) (.tmp 67) 29 rfl 5 i5 _ 1 1 Try.underlying29 hi5 hy0 hy1 hy2 rfl _ qq _ rfl hS6 _ rfl rfl (by intro u hu; simp at hu; subst hu; rfl) (by unfold maxLen; omega) (by omega) ?_)
                  intro a7 c7 w7 hS7
                  have HM3 : Hid (qq + 1 = q + (z + 1)) := Lib.hid (by have := HQQ.out; omega)
                  go_wp2
                  refine ⟨⟨z + 1, _, _, _, by omega, HM3.out, rfl, ?_⟩, by simp [slLen]; omega⟩
                  rw [show [Value.int IntKind.u8 61] = bytesV [61] from rfl, ← bytesV_append, List.append_assoc, ← List.replicate_succ'] at hS7
                  exact hS7
                · obtain rfl : z = Y := by omega
                  have hne : ((qq : Int) % 4 != 0) = false := by have := HYM.out; have := HQQ.out; simp; omega
                  have hcv := run_string_of (P := Try.prog) hS6.rowSl 29 9 5 Try.underlying29 Try.underlying5 Try.underlying9
                  have hfin : o ++ List.replicate z 61 = refEnc s := by
                    unfold refEnc pad4
                    rw [HBS.out, ← HLd.out, ← HO.out, ← HQ.out, HY.out]
                  rw [hfin] at hcv
                  go_wp2
                  go_ret
                  exact ⟨rfl, hS6.below⟩

end Go.Proofs.Ythbfkconaofigaa.B64Ref
