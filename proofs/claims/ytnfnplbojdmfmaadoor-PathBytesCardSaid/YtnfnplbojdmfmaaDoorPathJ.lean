import Derived.Test.YtnfnplbojdmfmaaDoorPathSp
namespace Go.Proofs.YtnfnplbojdmfmaaDoor.PathJ
open Go Go.RowKit Go.Proofs Go.Proofs.YtnfnplbojdmfmaaDoor.Sep Go.Proofs.YtnfnplbojdmfmaaDoor.Reg Go.Proofs.YtnfnplbojdmfmaaDoor.Frame Go.Proofs.YtnfnplbojdmfmaaDoor.PathP Go.Proofs.YtnfnplbojdmfmaaDoor.PathQ Go.Proofs.YtnfnplbojdmfmaaDoor.PathW Go.Proofs.YtnfnplbojdmfmaaDoor.PathL Go.Proofs.YtnfnplbojdmfmaaDoor.PathM Go.Proofs.YtnfnplbojdmfmaaDoor.PathT Go.Proofs.YtnfnplbojdmfmaaDoor.PathS Go.Proofs.YtnfnplbojdmfmaaDoor.PathSp

theorem strsV_E (l : List (List UInt8)) : l.flatMap Str.E = strsV l := by
  induction l with
  | nil => rfl
  | cons x xs ih => rw [List.flatMap_cons, ih]; rfl
/-- The element k, in every later world. -/
theorem strs_at {W : World} {a : Option Addr} {n c : Nat} {l : List (List UInt8)} (h : Sl W 1 (.slice a n c) n (strsV l)) {k : Nat} {x : List UInt8} (hk : l[k]? = some x) :
    ∃ ab ao, a = some ⟨ab, ao, none⟩ ∧ ∀ w A, St W w A → w.cell? ⟨ab, ao + k, none⟩ = some (.string ⟨x.toArray⟩) := by
  rw [← strsV_E] at h
  exact str_at_all h hk

def joinV (l : List (List UInt8)) : Value := match join l with
  | some p => .tuple #[.string ⟨p.toArray⟩, .bool true]
  | none => .tuple #[.string ⟨#[]⟩, .bool false]
theorem joinV_none {l : List (List UInt8)} (h : join l = none) : joinV l = .tuple #[.string ⟨#[]⟩, .bool false] := by unfold joinV; rw [h]
theorem joinV_some {l : List (List UInt8)} {p : List UInt8} (h : join l = some p) : joinV l = .tuple #[.string ⟨p.toArray⟩, .bool true] := by unfold joinV; rw [h]
theorem hexT_get : ∀ (n : Nat) (h : n < 16), (ByteArray.mk #[48, 49, 50, 51, 52, 53, 54, 55, 56, 57, 65, 66, 67, 68, 69, 70])[n]'h = hexU n := by decide
theorem joinL_take (l : List (List UInt8)) (k : Nat) (x : List UInt8) (h : l[k]? = some x) : joinL (l.take (k + 1)) = joinL (l.take k) ++ 47 :: encS x := by
  rw [List.take_add_one, h]; simp [joinL]
theorem encS_take (x : List UInt8) (i : Nat) (c : UInt8) (h : x[i]? = some c) : encS (x.take (i + 1)) = encS (x.take i) ++ encC c := by
  rw [List.take_add_one, h]; simp [encS]
theorem encS_prefix (x : List UInt8) (i : Nat) : (encS (x.take i)).length ≤ (encS x).length := by
  have h : encS x = encS (x.take i) ++ encS (x.drop i) := by
    conv => lhs; rw [← List.take_append_drop i x]
    unfold encS; rw [List.flatMap_append]
  rw [h]; simp
theorem joinL_prefix (l : List (List UInt8)) (k : Nat) : (joinL (l.take k)).length ≤ (joinL l).length := by
  have h : joinL l = joinL (l.take k) ++ joinL (l.drop k) := by
    conv => lhs; rw [← List.take_append_drop k l]
    unfold joinL; rw [List.flatMap_append]
  rw [h]; simp

/-- append of k elements that were just laid. -/
theorem wpList_appendK {P : Program} {W w : World} {R : Asn} {ops : Array Oper} {rest : List Oper} {o : Oper} {a : Act} {Q : Exit → Act → World → Prop} (hgd : o.guard = none) (s x : Operand) (t : TypeId)
    (ho : o.op = .call { callee := .builtin .append, args := #[s, x], argTypes := #[t, t] })
    (e : TypeId) (i : TypeInfo) (z : Value) (size bytes : Nat) (ht : P.underlying t = some (.slice e)) (hi : P.info? e = some i) (hz : i.zero = some z)
    (hsize : i.size = size) (hby : i.bytes = bytes) (hzs : z.cells.size = size)
    (v : Value) (n : Nat) (xs : List Value) (hs : a.eval s = v) (hown : St W w (star (Row e size v n xs) R))
    (k cap : Nat) (cs : Array Value) (hk : 0 < k) (hcs : cs.size = k * size) (hx : a.eval x = .slice (some ⟨w.heap.size, 0, none⟩) k cap) (h1 : ∀ u ∈ cs.toList, u.oneCell' = true)
    (h63 : n + k ≤ maxLen) (hbytes : (n + k) * bytes ≤ 140737488355328)
    (h : ∀ a' c' w', St W w' (star (Row e size (.slice (some ⟨a', 0, none⟩) (n + k) c') (n + k) (xs ++ cs.toList)) R) → wpList P ops Q rest (a.put o.dst (.slice (some ⟨a', 0, none⟩) (n + k) c')) w') :
    wpList P ops Q (o :: rest) a (w.alloc (.cells cs e (0, 0))) := by
  have h2 := hown.alloc (.cells cs e (0, 0))
  refine wpList_append_St hgd s x t ho e i z size bytes ht hi hz hsize hby hzs v n xs hs h2.swap ⟨w.heap.size, 0, none⟩ k cap cs.toList hx (by simpa using hcs) (fun j u hu => ?_) h1 h63 hbytes (fun v' w' hS hv => ?_)
  · have := h2.cell j (v := u) (by simpa using hu)
    rw [← this]
    unfold Addr.add
    split <;> simp_all
  · have hS' : St W w' (star (Row e size v' (n + k) (xs ++ cs.toList)) R) := hS.swap.right
    obtain ⟨_, hv'⟩ := hS'.row
    rcases hv' with ⟨rfl, h0, _⟩ | ⟨g, cap, cur, rfl, _⟩
    · omega
    · exact h g cap w' hS'

set_option maxRecDepth 100000 in
set_option maxHeartbeats 4000000 in
theorem pJoin_any (l : List (List UInt8)) (w : World) (a : Option Addr) (n c : Nat) (hn : l.length = n) (hnb : n ≤ 1000000) (hsl : Sl w 1 (.slice a n c) n (strsV l)) (hel : ∀ x ∈ l, x.length ≤ 1000000) :
    Calls Tryd.prog 10 #[.slice a n c] w (Makes w (joinV l)) := by
  obtain ⟨i5, hi5, hy0, hy1, hy2⟩ := info_parts infoB
  have h0 : St w w (star (Row 5 1 (.slice none 0 0) 0 (bytesV [])) emp) := (St.start w).nilRow
  have HN := Lib.hid hn
  have HEL := Lib.hid hel
  have HSL := Lib.hid hsl
  clear hn hel hsl
  go_enter Tryd.func10, Tryd.ntmps10
  go_wp2_with fail
  go_loopw [4, 10] (fun bv kv wr => ∃ (k m : Nat) (ba : Option Addr) (bc : Nat), k ≤ n ∧ kv = .int .i64 k ∧ m ≤ 512 ∧ m = (joinL (l.take k)).length ∧ bv = .slice ba m bc ∧ (l.take k).all may = true ∧
    St w wr (star (Row 5 1 (.slice ba m bc) m (bytesV (joinL (l.take k)))) emp)) (fun _ kv _ => n - (intOf kv).toNat)
  case atStart => exact ⟨0, 0, none, 0, by omega, rfl, by omega, rfl, rfl, rfl, h0⟩
  case round =>
    obtain ⟨k, m, ba, bc, hk, rfl, hm, hml, rfl, hall, hS⟩ := hrel
    have HML := Lib.hid hml
    have HA := Lib.hid hall
    clear hml hall h0
    by_cases hk2 : k < n
    · obtain ⟨x, hx⟩ : ∃ x, l[k]? = some x := ⟨_, List.getElem?_eq_getElem (by rw [HN.out]; exact hk2)⟩
      obtain ⟨ab, ao, rfl, hcl⟩ := strs_at HSL.out hx
      have hc0 := hcl _ _ hS
      have hxl := HEL.out x (List.mem_of_getElem? hx)
      have HX := Lib.hid hx
      clear hcl hx
      have HMY := Lib.hid fun w => may_any x w hxl
      go_wp2_with (at_builtin; refine wpList_append1 rfl (.tmp 14) (.tmp 15) 31 rfl 5 i5 _ 1 1 Tryd.underlying31 hi5 hy0 hy1 hy2 rfl _ m _ rfl hS _ rfl rfl (by intro u hu; simp at hu; subst hu; rfl) (by unfold maxLen; omega) (by omega) ?_)
      intro a5 c5 w5 hS5
      have hS6 : St w w5 (star (Row 5 1 (.slice (some ⟨a5, 0, none⟩) (m + 1) c5) (m + 1) (bytesV (joinL (l.take k) ++ 47 :: encS (x.take 0)))) emp) := by
        have e : bytesV (joinL (l.take k) ++ 47 :: encS (x.take 0)) = bytesV (joinL (l.take k)) ++ [.int .u8 47] := by simp [encS, bytesV]
        rw [e]; exact hS5
      clear hS5
      go_wp2_with fail
      go_loopw [4, 7] (fun bv iv wr => ∃ (i mm : Nat) (ba : Option Addr) (bc : Nat), i ≤ x.length ∧ iv = .int .i64 i ∧ mm ≤ 515 ∧ mm = (joinL (l.take k) ++ 47 :: encS (x.take i)).length ∧ bv = .slice ba mm bc ∧
        St w wr (star (Row 5 1 (.slice ba mm bc) mm (bytesV (joinL (l.take k) ++ 47 :: encS (x.take i)))) emp)) (fun _ iv _ => x.length - (intOf iv).toNat)
      case atStart => exact ⟨0, m + 1, some ⟨a5, 0, none⟩, c5, by omega, rfl, by omega, by simp [encS, ← HML.out], rfl, hS6⟩
      case round =>
        obtain ⟨i, mm, b2, bc2, hi, rfl, hmm, hmml, rfl, hS7⟩ := hrel
        have HMM := Lib.hid hmml
        clear hmml hS6
        by_cases hi2 : i < x.length
        · by_cases hm512 : mm ≤ 512
          · have hsz : i < (ByteArray.mk x.toArray).size := by simpa [ByteArray.size] using hi2
            have hget := get_byte x i hsz
            generalize hch : (ByteArray.mk x.toArray)[i]'hsz = ch at *
            have HET := Lib.hid (encS_take x i ch hget)
            have HK := Lib.hid fun w => kept_any ch w
            clear hget
            cases hkc : keptC ch
            · rw [hkc] at HK
              have HEC : Hid (encC ch = [37, hexU (ch.toNat / 16), hexU (ch.toNat % 16)]) := Lib.hid (by unfold encC; rw [hkc]; rfl)
              clear hkc
              go_wp2_with fail
              refine (HK.out _).mono ?_
              rintro e w' ⟨rfl, rfl⟩
              have hcb := ch.toNat_lt
              obtain ⟨h4, hh4⟩ : ∃ h4 : Nat, ch.toNat / 16 = h4 := ⟨_, rfl⟩
              obtain ⟨l4, hl4⟩ : ∃ l4 : Nat, ch.toNat % 16 = l4 := ⟨_, rfl⟩
              have hshr : ((ch.toNat : Int) / 16) = (h4 : Int) := by omega
              have hand : bits .and .u8 (ch.toNat : Int) 15 = (l4 : Int) := by
                rw [u8_and15 _ (by omega) (by omega)]; omega
              have hd1 : h4 < 16 := by omega
              have hd2 : l4 < 16 := by omega
              have hd1I : (h4 : Int) < 16 := by omega
              have hd2I : (l4 : Int) < 16 := by omega
              rw [hh4, hl4] at HEC
              clear hh4 hl4
              go_wp2_with fail
              refine wp_region_segs [(false, [0]), (true, [1, 2, 3, 4, 5, 6, 7, 8, 9, 10]), (false, [11, 12, 13])] (by kernel_rfl) (by kernel_rfl) ?_
              simp only [wpSegs, pickOps, nthOp]
              go_wp2_with fail
              simp only [Reg.Next]
              repeat (go_big_quiet_step (fail))
              refine wpQuiet_nil ?_
              intro nq
              have hS8 := hS7.drewN (1 + nq)
              go_wp2_with (at_builtin; refine wpList_appendK rfl (.tmp 38) (.tmp 49) 31 rfl 5 i5 _ 1 1 Tryd.underlying31 hi5 hy0 hy1 hy2 rfl _ mm _ rfl hS8 3 3 _ (by decide) rfl rfl (by intro u hu; simp at hu; rcases hu with rfl | rfl | rfl <;> rfl) (by unfold maxLen; omega) (by omega) ?_)
              intro a9 c9 w9 hS9
              go_wp2_with fail
              simp only [Reg.Next]
              go_wp2
              refine ⟨⟨i + 1, mm + 3, _, _, by omega, by go_num, by omega, ?_, rfl, ?_⟩, by simp [intOf]; omega⟩
              · rw [HET.out, HEC.out, ← List.cons_append, ← List.append_assoc, List.length_append, ← HMM.out]; rfl
              · rw [HET.out, HEC.out, ← List.cons_append, ← List.append_assoc, bytesV_append]
                rw [hexT_get h4 hd1, hexT_get l4 hd2] at hS9
                exact hS9
            · rw [hkc] at HK
              have HEC : Hid (encC ch = [ch]) := Lib.hid (by unfold encC; rw [hkc]; rfl)
              clear hkc
              go_wp2_with fail
              refine (HK.out _).mono ?_
              rintro e w' ⟨rfl, rfl⟩
              go_wp2_with (at_builtin; refine wpList_append1 rfl (.tmp 32) (.tmp 36) 31 rfl 5 i5 _ 1 1 Tryd.underlying31 hi5 hy0 hy1 hy2 rfl _ mm _ rfl hS7 _ rfl rfl (by intro u hu; simp at hu; subst hu; rfl) (by unfold maxLen; omega) (by omega) ?_)
              intro a9 c9 w9 hS9
              go_wp2
              refine ⟨⟨i + 1, mm + 1, _, _, by omega, by go_num, by omega, ?_, rfl, ?_⟩, by simp [intOf]; omega⟩
              · rw [HET.out, HEC.out, ← List.cons_append, ← List.append_assoc, List.length_append, ← HMM.out]; rfl
              · rw [HET.out, HEC.out, ← List.cons_append, ← List.append_assoc, bytesV_append]
                exact hS9
          · have HJ : Hid (join l = none) := Lib.hid (by
              unfold join
              rw [if_neg]
              rintro ⟨_, _, h⟩
              have h1 := joinL_prefix l (k + 1)
              rw [joinL_take l k x HX.out] at h1
              have h2 := encS_prefix x i
              have h3 := HMM.out
              simp only [List.length_append, List.length_cons] at h1 h3
              omega)
            cases hmy : may x
            all_goals
              rw [hmy] at HMY
              clear hmy
              go_wp2_with fail
              refine (HMY.out _).mono ?_
              rintro e w' hq
              have hS8 := hS7.makes hq
              obtain ⟨rfl, -⟩ := hq
              go_wp2
              go_ret2
              exact ⟨congrArg Ending.returned (joinV_none HJ.out).symm, hS8.below⟩
        · have hix : i = x.length := by omega
          have HFull : Hid (joinL (l.take k) ++ 47 :: encS (x.take i) = joinL (l.take (k + 1))) := Lib.hid (by rw [joinL_take l k x HX.out, hix, List.take_length])
          rw [HFull.out] at hS7
          have HMM2 : Hid (mm = (joinL (l.take (k + 1))).length) := Lib.hid (by rw [HMM.out, HFull.out])
          clear hix
          cases hmy : may x
          · rw [hmy] at HMY
            have HJ : Hid (join l = none) := Lib.hid (by
              unfold join
              rw [if_neg]
              rintro ⟨_, h, _⟩
              have := List.all_eq_true.1 h x (List.mem_of_getElem? HX.out)
              rw [hmy] at this; cases this)
            clear hmy
            go_wp2_with fail
            refine (HMY.out _).mono ?_
            rintro e w' hq
            have hS8 := hS7.makes hq
            obtain ⟨rfl, -⟩ := hq
            go_wp2
            go_ret2
            exact ⟨congrArg Ending.returned (joinV_none HJ.out).symm, hS8.below⟩
          · rw [hmy] at HMY
            have HAl : Hid ((l.take (k + 1)).all may = true) := Lib.hid (by rw [List.take_add_one, HX.out, List.all_append, HA.out]; simp [hmy])
            clear hmy
            by_cases hm512 : mm ≤ 512
            · go_wp2_with fail
              refine (HMY.out _).mono ?_
              rintro e w' hq
              have hS8 := hS7.makes hq
              obtain ⟨rfl, -⟩ := hq
              go_wp2
              exact ⟨⟨k + 1, mm, _, _, by omega, by go_num, hm512, HMM2.out, rfl, HAl.out, hS8⟩, by simp [intOf]; omega⟩
            · have HJ : Hid (join l = none) := Lib.hid (by
                unfold join
                rw [if_neg]
                rintro ⟨_, _, h⟩
                have h1 := joinL_prefix l (k + 1)
                have h3 := HMM2.out
                omega)
              go_wp2_with fail
              refine (HMY.out _).mono ?_
              rintro e w' hq
              have hS8 := hS7.makes hq
              obtain ⟨rfl, -⟩ := hq
              go_wp2
              go_ret2
              exact ⟨congrArg Ending.returned (joinV_none HJ.out).symm, hS8.below⟩
    · obtain rfl : k = n := by omega
      have htk : l.take k = l := List.take_of_length_le (by rw [HN.out]; omega)
      rw [htk] at hS
      have hcv := run_string_of (P := Tryd.prog) hS.rowSl 31 9 5 Tryd.underlying31 Tryd.underlying5 Tryd.underlying9
      by_cases h0 : k = 0
      · have HJ : Hid (joinV l = .tuple #[.string ⟨#[]⟩, .bool false]) := Lib.hid (joinV_none (by
          unfold join
          rw [if_neg]
          rintro ⟨h, _⟩
          exact h (List.eq_nil_of_length_eq_zero (by rw [HN.out]; exact h0))))
        have hl0 : joinL l = [] := by
          have : l = [] := List.eq_nil_of_length_eq_zero (by rw [HN.out]; exact h0)
          rw [this]; rfl
        rw [hl0] at hcv
        subst h0
        clear htk hl0
        go_wp2
        go_ret2
        exact ⟨congrArg Ending.returned HJ.out.symm, hS.below⟩
      · have HJ : Hid (joinV l = .tuple #[.string ⟨(joinL l).toArray⟩, .bool true]) := Lib.hid (joinV_some (by
          unfold join
          rw [if_pos]
          refine ⟨?_, ?_, ?_⟩
          · intro hl; have := HN.out; rw [hl] at this; simp at this; omega
          · rw [← htk]; exact HA.out
          · rw [← htk, ← HML.out]; exact hm))
        have hkp : 0 < k := by omega
        clear htk h0
        go_wp2
        go_ret2
        exact ⟨congrArg Ending.returned HJ.out.symm, hS.below⟩

end Go.Proofs.YtnfnplbojdmfmaaDoor.PathJ
