import Derived.Test.YtlofiaaacepgmaaGreatDoorTrCm
import Derived.Test.YtlofiaaacepgmaaGreatDoorTrQ
namespace Go.Proofs.YtlofiaaacepgmaaGreatDoor.TrDm
open Go Go.RowKit Go.Proofs Go.Proofs.YtlofiaaacepgmaaGreatDoor.Sep Go.Proofs.YtlofiaaacepgmaaGreatDoor.Reg Go.Proofs.YtlofiaaacepgmaaGreatDoor.Frame Go.Proofs.YtlofiaaacepgmaaGreatDoor.Strs Go.Proofs.YtlofiaaacepgmaaGreatDoor.Mp Go.Proofs.YtlofiaaacepgmaaGreatDoor.TrP Go.Proofs.YtlofiaaacepgmaaGreatDoor.TrM Go.Proofs.YtlofiaaacepgmaaGreatDoor.TrAm Go.Proofs.YtlofiaaacepgmaaGreatDoor.TrBm Go.Proofs.YtlofiaaacepgmaaGreatDoor.TrCm Go.Proofs.YtlofiaaacepgmaaGreatDoor.TrQ

theorem results_tmp4 {fn : Func} {t u v x : Tmp} (h : fn.results = #[.tmp t, .tmp u, .tmp v, .tmp x]) (tmps : Array Value) (P : Program) (w : World) :
    (results fn tmps).run P w = .ok (.tuple #[tmps.getD t undef, tmps.getD u undef, tmps.getD v undef, tmps.getD x undef]) w := by
  simp [results, h]
theorem Join_any {w : World} {a : Option Addr} {n c : Nat} {l : List Tx} (h : Sl w 1 (.slice a n c) n (strsV l)) (hln : l.length = n) (hn : n ≤ 10000) (hb : ∀ x ∈ l, x.length ≤ 10000) : Calls Tryz.prog 34 #[.slice a n c, .string ⟨#[47]⟩] w (Makes w (.string ⟨(joinS l).toArray⟩)) := by
  cases n with
  | zero =>
    obtain rfl : l = [] := List.eq_nil_of_length_eq_zero hln
    refine (Tryz.strings_Join_none a c ⟨#[47]⟩ w).mono ?_
    rintro e w' ⟨rfl, rfl⟩
    exact Makes.mk0 _ _
  | succ m =>
    have hcap : m + 1 ≤ c ∧ c ≤ 9223372036854775807 := by obtain ⟨_, _, _, hv, h1, h2, _⟩ := h; cases hv; exact ⟨h1, by simpa [maxLen] using h2⟩
    obtain ⟨y, hy⟩ : ∃ y, l[0]? = some y := ⟨_, List.getElem?_eq_getElem (by omega)⟩
    obtain ⟨ab, ao, rfl, hel0⟩ := strs_at h hy
    have hlt := World.block_lt_of_cell? w _ (hel0 _ _ (St.start w))
    have hj : Lib.join ((l.map fun x => (⟨x.toArray⟩ : ByteArray)).map (·.data.toList)) [47] = joinS l := by
      rw [← join_eq, List.map_map]
      congr 1
      conv => rhs; rw [← List.map_id l]
      exact List.map_congr_left fun x _ => by simp
    have hjl := joinS_le l 10000 hb
    have h := Tryz.strings_Join ab ao c (l.map fun x => ⟨x.toArray⟩) ⟨#[47]⟩ w (fun j x hx => by
      rw [List.getElem?_map] at hx
      cases hz : l[j]? with
      | none => rw [hz] at hx; cases hx
      | some z =>
        rw [hz] at hx
        cases hx
        obtain ⟨ab', ao', e, hel⟩ := strs_at h hz
        cases e
        exact hel _ _ (St.start w)) hlt (by simp; omega) (by simp; omega) (by
        show (Lib.join _ [47]).length ≤ _
        rw [hj]
        have : l.length * (10000 + 1) ≤ 10000 * (10000 + 1) := Nat.mul_le_mul_right _ (by omega)
        omega)
    rw [List.length_map, hln] at h
    refine h.mono ?_
    rintro e w' ⟨rfl, hb⟩
    refine ⟨?_, hb⟩
    show Ending.returned (.string ⟨(Lib.join _ [47]).toArray⟩) = _
    rw [hj]
theorem infoF : (Tryz.prog.info? 43).map (fun i => (i.zero, i.size, i.bytes)) = some (some (.agg #[.string ByteArray.empty, .string ByteArray.empty]), 2, 32) := by kernel_rfl
def FPost (W : World) (tp : Nat) (max : Int) (es : EntsV) (path : List Tx) (R : Asn) (e : Ending) (w' : World) : Prop :=
  match findT es path with
  | none => e = .returned (.tuple #[(Value.map none), .slice none 0 0, .string ⟨#[]⟩, .bool false]) ∧ St W w' (star (IsT tp max es) R)
  | some v => ∃ a c, e = .returned (.tuple #[v.2.1, .slice a v.2.2.length c, .string ⟨v.1.toArray⟩, .bool true]) ∧ St W w' (star (Row 43 2 (.slice a v.2.2.length c) v.2.2.length (fldV v.2.2)) (star (IsT tp max es) R))
theorem FPost.no {W w' : World} {tp : Nat} {max : Int} {es : EntsV} {path : List Tx} {R : Asn} {e : Ending} (h : findT es path = none) (he : e = .returned (.tuple #[(Value.map none), .slice none 0 0, .string ⟨#[]⟩, .bool false])) (hS : St W w' (star (IsT tp max es) R)) : FPost W tp max es path R e w' := by
  unfold FPost; rw [h]; exact ⟨he, hS⟩
theorem FPost.yes {W w' : World} {tp : Nat} {max : Int} {es : EntsV} {path : List Tx} {R : Asn} {e : Ending} {p : Tx} {x : Value} {ps : List TrQ.Fd} {m : Nat} {a : Option Addr} {c : Nat} (h : findT es path = some (p, x, ps)) (hm : ps.length = m) (he : e = .returned (.tuple #[x, .slice a m c, .string ⟨p.toArray⟩, .bool true]))
    (hS : St W w' (star (Row 43 2 (.slice a m c) m (fldV ps)) (star (IsT tp max es) R))) : FPost W tp max es path R e w' := by
  subst hm; unfold FPost; rw [h]; exact ⟨a, c, he, hS⟩
set_option maxRecDepth 100000 in
set_option maxHeartbeats 16000000 in
theorem Find_any {W w : World} {R : Asn} (tp : Nat) (max : Int) (es : EntsV) (h : St W w (star (IsT tp max es) R)) (hpl : ∀ e ∈ es, e.2.1.length ≤ 1000000) (hm : TrS.MaxLen W)
    (pa : Option Addr) (n pc : Nat) (path : List Tx) (hsl : Sl w 1 (.slice pa n pc) n (strsV path)) (hln : path.length = n) (hn : n ≤ 10000) (hb : ∀ x ∈ path, x.length ≤ 10000) :
    Calls Tryz.prog 18 #[.pointer (some ⟨tp, 0, none⟩), .slice pa n pc] w (FPost W tp max es path R) := by
  obtain ⟨root, F, lv, hi, hg, h1⟩ := St.isT h
  have HNo := Lib.hid (none_any tp root w (h1.cell 1 rfl))
  have HB := Lib.hid (best_any hi.nodup (clo_of hi) path (some root) (h1.eq (B := star (Nds nt F) (star (pt tp (.cells #[.int .i64 max, .pointer (some ⟨root, 0, none⟩), lv] tt (0, 0))) (star (Row 9 1 lv es.length (strsV (pats es))) R))) (by ac_rfl)) (by rintro q e; cases e; exact ⟨[], rfl⟩) pa n pc hsl hln (by omega))
  have HM := Lib.hid hm
  have HI := Lib.hid hi
  have HG := Lib.hid hg
  have HH := Lib.hid h
  have HSL := Lib.hid hsl
  have HLN := Lib.hid hln
  have HBD := Lib.hid hb
  have c1 := h1.cell 1 (v := .pointer (some ⟨root, 0, none⟩)) rfl
  clear hg h hm hsl hln hb
  rw [pV_some] at HB
  cases hbe : bestE es [] path with
  | none =>
    obtain ⟨e1, e2⟩ := found_none HI.out HG.out path hbe
    rw [e1] at HB
    have HF := Lib.hid e2
    clear e1 e2 hbe hi
    go_enter Tryz.func18, Tryz.ntmps18
    go_wp2_with fail
    refine HNo.out.mono ?_
    rintro e w1 ⟨rfl, rfl⟩
    go_wp2_with fail
    refine HB.out.mono ?_
    rintro e w2 ⟨rfl, hdr⟩
    rw [pV_none]
    clear c1
    go_wp2
    refine bodyPost_ret (results_tmp4 rfl _ _ _) rfl ?_
    exact FPost.no HF.out rfl (hdr.st HH.out)
  | some k =>
    obtain ⟨q, nd, v, l, e1, hnd, hv, hpat, hx, hsp, hfit, hft⟩ := found_some HI.out HG.out path hbe
    rw [e1] at HB
    have hvl : v.1.length ≤ 1000000 := hpl _ (getM_mem hv)
    have HSp := Lib.hid fun w => TrS.split_any v.1 w hvl
    rw [hsp] at HSp
    have hll : l.length ≤ 1000000 := Nat.le_trans (splitP_len hsp) hvl
    have hlp : l.length ≤ n := by have := fits_len _ _ hfit; rw [HLN.out] at this; simpa [keysOf] using this
    have HND := Lib.hid hnd
    have HPAT := Lib.hid hpat
    have HX := Lib.hid hx
    have HF := Lib.hid hft
    have HL := Lib.hid hsp
    have HD := Lib.hid hi.nodup
    have H1 := Lib.hid h1
    clear e1 hnd hv hpat hx hsp hfit hft hi hbe h1
    go_enter Tryz.func18, Tryz.ntmps18
    go_wp2_with fail
    refine HNo.out.mono ?_
    rintro e w1 ⟨rfl, rfl⟩
    go_wp2_with fail
    refine HB.out.mono ?_
    rintro e w2 ⟨rfl, hdr⟩
    rw [pV_some]
    have h2 := hdr.st (St.start w1)
    clear c1 hdr
    have c3 := (takeN ((H1.out.past h2.below).eq (B := star (Nds nt F) (star (pt tp (.cells #[.int .i64 max, .pointer (some ⟨root, 0, none⟩), lv] tt (0, 0))) (star (Row 9 1 lv es.length (strsV (pats es))) R))) (by ac_rfl)) HD.out HND.out).cell 3 (v := .string ⟨v.1.toArray⟩) (by show some (kS nd.pat) = _; rw [HPAT.out]; rfl)
    go_wp2_with fail
    refine (HSp.out _ (HM.out.st (H1.out.past h2.below))).mono ?_
    rintro e w3 ⟨a3, k3, rfl, h3⟩
    have h4 := St.compR h2 h3
    clear c3
    obtain ⟨m, hm⟩ : ∃ m, l.length = m := ⟨_, rfl⟩
    rw [hm] at hll hlp h4
    rw [hm]
    have HLM := Lib.hid hm
    clear hm h2 h3
    have U := Tryz.underlying55
    go_wp2_with fail
    go_loopw [5, 35] (fun nv iv wr => ∃ (i m' : Nat) (va : Option Addr) (vk : Nat) (ps : List TrQ.Fd), i ≤ m ∧ iv = .int .i64 i ∧ nv = .slice va m' vk ∧ Hid (ps.length = m') ∧ m' ≤ i ∧ Hid (params l path = ps ++ params (l.drop i) (path.drop i)) ∧ St w1 wr (star (Row 43 2 (.slice va m' vk) m' (fldV ps)) (star (Row 9 1 (.slice a3 m k3) m (strsV l)) emp))) (fun _ iv _ => m - (intOf iv).toNat)
    case atStart => exact ⟨0, 0, none, 0, [], Nat.zero_le _, rfl, rfl, Lib.hid rfl, Nat.le_refl _, Lib.hid rfl, h4.nilRow⟩
    case round =>
      obtain ⟨i, m', va, vk, ps, hi, rfl, rfl, HPS, hmi, HPA, hS⟩ := hrel
      clear h4
      obtain ⟨i0, hi0, hz0, hz1, hz2⟩ := info_parts infoF
      by_cases hin : i < m
      · obtain ⟨x, hx⟩ : ∃ x, l[i]? = some x := ⟨_, List.getElem?_eq_getElem (by rw [HLM.out]; exact hin)⟩
        obtain ⟨y, hy⟩ : ∃ y, path[i]? = some y := ⟨_, List.getElem?_eq_getElem (by rw [HLN.out]; omega)⟩
        obtain ⟨ab, ao, rfl, hel⟩ := strs_at hS.right.rowSl hx
        have he := hel _ _ (St.start wr)
        have hxne := splitP_ne HL.out x (List.mem_of_getElem? hx)
        have hsz : 0 < (ByteArray.mk x.toArray).size := by
          cases x with
          | nil => exact absurd rfl hxne
          | cons => simp [ByteArray.size]
        have hhd := TrS.head_get x hsz
        have hz : 0 < x.length := by simpa [ByteArray.size] using hsz
        have hstr := run_str_l (P := Tryz.prog) 9 Tryz.underlying9 x 1 1 rfl hz
        generalize hch : (ByteArray.mk x.toArray)[0]'hsz = c at *
        have HST : Hid (params l path = ps ++ ((if x.head? = some 58 then [(x.drop 1, y)] else if x.head? = some 42 then [(x.drop 1, joinS (path.drop i))] else []) ++ params (l.drop (i + 1)) (path.drop (i + 1)))) := Lib.hid (by
          rw [HPA.out, params_drop l path i x hx, headD_drop path i y hy])
        rw [hhd] at HST
        have HY := Lib.hid hy
        clear hel hx hxne hhd hy
        by_cases h58 : c = 58
        · have hb : ((c.toNat : Int) == 58) = true := by rw [h58]; rfl
          have HS2 : Hid (params l path = (ps ++ [(x.drop 1, y)]) ++ params (l.drop (i + 1)) (path.drop (i + 1))) := Lib.hid (by
            rw [HST.out, if_pos (by rw [h58]), List.append_assoc])
          clear h58 HST
          generalize x.drop 1 = x1 at *
          obtain ⟨pb, po, rfl, hpl2⟩ := strs_at (sl_later HSL.out hS) HY.out
          have hp1 := hpl2 _ _ (St.start wr).drew
          clear hpl2
          have hcap : n ≤ pc ∧ pc ≤ 9223372036854775807 := by obtain ⟨_, _, _, hv, h1, h2, _⟩ := HSL.out; cases hv; exact ⟨h1, by simpa [maxLen] using h2⟩
          go_wp2_with fail
          refine wp_region_canon [0, 1, 2, 3, 4, 5, 6, 7, 8, 9, 10] (by kernel_rfl) (by kernel_rfl) ?_
          simp only [pickOps, nthOp]
          have hSd := hS.drew
          generalize wr.drew = wd at *
          go_wp2_with (at_builtin; refine wpList_append1 rfl (.tmp 44) (.tmp 52) 22 rfl 43 i0 _ 2 32 Tryz.underlying22 hi0 hz0 hz1 hz2 rfl _ m' _ rfl hSd #[.string ⟨x1.toArray⟩, .string ⟨y.toArray⟩] rfl rfl (by intro u hu; simp at hu; rcases hu with rfl | rfl <;> rfl) (by unfold maxLen; omega) (by omega) ?_)
          intro a7 c7 w7 h7
          go_wp2_with fail
          simp only [Only]
          go_wp2_with fail
          exact ⟨⟨i + 1, m' + 1, _, _, _, hin, by go_num, rfl, Lib.hid (by rw [List.length_append, HPS.out]; rfl), by omega, HS2, by rw [fldV_append]; exact h7⟩, by simp [intOf]; omega⟩
        · have hb : ((c.toNat : Int) == 58) = false := TrS.byte_no h58
          by_cases h42 : c = 42
          · have hb2 : ((c.toNat : Int) == 42) = true := by rw [h42]; rfl
            have HS2 : Hid (params l path = (ps ++ [(x.drop 1, joinS (path.drop i))]) ++ params (l.drop (i + 1)) (path.drop (i + 1))) := Lib.hid (by
              rw [HST.out, if_neg (by rw [h42]; simp), if_pos (by rw [h42]), List.append_assoc])
            clear h58 h42 HST
            generalize x.drop 1 = x1 at *
            have hcut := fun w => run_cut_l' (P := Tryz.prog) 55 9 1 U (by kernel_rfl) pa n pc (i : Int) i rfl (by omega) w
            have hslr := (sl_later HSL.out hS).cut i n (by omega) (Nat.le_refl _)
            rw [Nat.mul_one, Nat.mul_one] at hslr
            have e : ((strsV path).drop i).take (n - i) = strsV (path.drop i) := by
              rw [List.take_of_length_le (by rw [List.length_drop, strsV_length, HLN.out]; exact Nat.le_refl _)]
              simp [strsV, List.map_drop]
            rw [e] at hslr
            obtain ⟨a2, c2, hcv⟩ : ∃ a2 c2, cutV pa pc i n 1 = .slice a2 (n - i) c2 := ⟨_, _, rfl⟩
            rw [hcv] at hslr
            simp only [hcv] at hcut
            have HJ := Lib.hid (Join_any hslr.drew (by rw [List.length_drop, HLN.out]) (by omega) (fun z hz => HBD.out z (List.mem_of_mem_drop hz)))
            generalize joinS (path.drop i) = jj at *
            clear hslr hcv e
            go_wp2_with fail
            refine wp_region_canon [0, 1, 2, 3, 4, 5, 6, 7, 8, 9, 10] (by kernel_rfl) (by kernel_rfl) ?_
            simp only [pickOps, nthOp]
            go_wp2_with fail
            refine HJ.out.mono ?_
            rintro e w5 hq
            have h5 := hS.drew.makes hq
            obtain ⟨rfl, -⟩ := hq
            clear he
            go_wp2_with (at_builtin; refine wpList_append1 rfl (.tmp 56) (.tmp 64) 22 rfl 43 i0 _ 2 32 Tryz.underlying22 hi0 hz0 hz1 hz2 rfl _ m' _ rfl h5 #[.string ⟨x1.toArray⟩, .string ⟨jj.toArray⟩] rfl rfl (by intro u hu; simp at hu; rcases hu with rfl | rfl <;> rfl) (by unfold maxLen; omega) (by omega) ?_)
            intro a7 c7 w7 h7
            go_wp2_with fail
            simp only [Only]
            go_wp2_with fail
            exact ⟨⟨i + 1, m' + 1, _, _, _, hin, by go_num, rfl, Lib.hid (by rw [List.length_append, HPS.out]; rfl), by omega, HS2, by rw [fldV_append]; exact h7⟩, by simp [intOf]; omega⟩
          · have hb2 : ((c.toNat : Int) == 42) = false := TrS.byte_no h42
            have HS2 : Hid (params l path = ps ++ params (l.drop (i + 1)) (path.drop (i + 1))) := Lib.hid (by
              rw [HST.out, if_neg (by simp [h58]), if_neg (by simp [h42])]; rfl)
            clear h58 h42 HST
            go_wp2_with fail
            exact ⟨⟨i + 1, m', _, _, ps, hin, by go_num, rfl, HPS, by omega, HS2, hS⟩, by simp [intOf]; omega⟩
      · obtain rfl : i = m := by omega
        have HE : Hid (params l path = ps) := Lib.hid (by
          rw [HPA.out, List.drop_of_length_le (by rw [HLM.out]; exact Nat.le_refl _)]
          simp [params])
        have hSd := hS.drew
        have hn2 := takeN ((H1.out.past hSd.below).eq (B := star (Nds nt F) (star (pt tp (.cells #[.int .i64 max, .pointer (some ⟨root, 0, none⟩), lv] tt (0, 0))) (star (Row 9 1 lv es.length (strsV (pats es))) R))) (by ac_rfl)) HD.out HND.out
        have c3 := hn2.cell 3 (v := .string ⟨v.1.toArray⟩) (by show some (kS nd.pat) = _; rw [HPAT.out]; rfl)
        have c4 := hn2.cell 4 (v := v.2) (by show some nd.x = _; rw [HX.out])
        clear hn2
        go_wp2_with fail
        refine wp_region_canon [0, 1, 2, 3, 4, 5, 6, 7, 8, 9, 10, 11, 12] (by kernel_rfl) (by kernel_rfl) ?_
        simp only [pickOps, nthOp]
        go_wp2_with fail
        simp only [Only]
        go_wp2_with fail
        refine bodyPost_ret (results_tmp4 rfl _ _ _) rfl ?_
        exact FPost.yes HF.out (by rw [HE.out]; exact HPS.out) rfl (by rw [HE.out]; exact St.compR HH.out (hSd.left.eq (star_emp _).symm))
end Go.Proofs.YtlofiaaacepgmaaGreatDoor.TrDm
