import Derived.Test.YtlofiaaacepgmaaGreatDoorTrBm
import Derived.Test.YtlofiaaacepgmaaGreatDoorTrS
namespace Go.Proofs.YtlofiaaacepgmaaGreatDoor.TrCm
open Go Go.RowKit Go.Proofs Go.Proofs.YtlofiaaacepgmaaGreatDoor.Sep Go.Proofs.YtlofiaaacepgmaaGreatDoor.Reg Go.Proofs.YtlofiaaacepgmaaGreatDoor.Frame Go.Proofs.YtlofiaaacepgmaaGreatDoor.Strs Go.Proofs.YtlofiaaacepgmaaGreatDoor.Mp Go.Proofs.YtlofiaaacepgmaaGreatDoor.TrP Go.Proofs.YtlofiaaacepgmaaGreatDoor.TrM Go.Proofs.YtlofiaaacepgmaaGreatDoor.TrAm Go.Proofs.YtlofiaaacepgmaaGreatDoor.TrBm

abbrev tt : TypeId := 76
def pats (es : EntsV) : List Tx := es.map fun e => e.2.1
/-- A trie: the root, the nodes, the row of the patterns. -/
def IsT (tp : Nat) (max : Int) (es : EntsV) : Asn := ex fun q : Nat × Bag × Value =>
  star (pu (InvE q.2.1 q.1 es ∧ TrP.Good es)) (star (pt tp (.cells #[.int .i64 max, .pointer (some ⟨q.1, 0, none⟩), q.2.2] tt (0, 0))) (star (Row 9 1 q.2.2 es.length (strsV (pats es))) (Nds nt q.2.1)))
section
variable {W w : World} {tp : Nat} {max : Int} {es : EntsV} {R : Asn}
theorem St.isT (h : St W w (star (IsT tp max es) R)) : ∃ root F lv, InvE F root es ∧ TrP.Good es ∧ St W w (star (pt tp (.cells #[.int .i64 max, .pointer (some ⟨root, 0, none⟩), lv] tt (0, 0))) (star (Row 9 1 lv es.length (strsV (pats es))) (star (Nds nt F) R))) := by
  obtain ⟨⟨root, F, lv⟩, h⟩ := St.ex_iff.1 h
  obtain ⟨hr, h⟩ := St.pu_iff.1 (h.eq (star_assoc _ _ _))
  exact ⟨root, F, lv, hr.1, hr.2, h.eq (by simp only [star_assoc])⟩
theorem St.toT {root : Nat} {F : Bag} {lv : Value} (hi : InvE F root es) (hg : TrP.Good es) (h : St W w (star (pt tp (.cells #[.int .i64 max, .pointer (some ⟨root, 0, none⟩), lv] tt (0, 0))) (star (Row 9 1 lv es.length (strsV (pats es))) (star (Nds nt F) R)))) : St W w (star (IsT tp max es) R) := by
  refine St.ex_iff.2 ⟨(root, F, lv), ?_⟩
  refine St.eq ?_ (star_assoc _ _ _).symm
  exact St.pu_iff.2 ⟨⟨hi, hg⟩, h.eq (by simp only [star_assoc])⟩
end
theorem clo_of {F : Bag} {root : Nat} {N : List Key → Prop} {V : List Key → Option (Tx × Value)} (h : Inv F root N V) : Clo F root := fun ks q hq => by
  obtain ⟨_, nd, hn, _⟩ := h.node ks q hq
  exact ⟨nd, hn⟩

set_option maxRecDepth 100000 in
theorem none_any (tp root : Nat) (w : World) (h : w.cell? ⟨tp, 1, none⟩ = some (.pointer (some ⟨root, 0, none⟩))) : Calls Tryz.prog 31 #[.pointer (some ⟨tp, 0, none⟩)] w fun e w' => e = .returned (.bool false) ∧ w' = w := by
  go_enter Tryz.func31, Tryz.ntmps31
  go_wp2
  go_ret
  exact ⟨rfl, rfl⟩
set_option maxRecDepth 100000 in
theorem none_nil (w : World) : Calls Tryz.prog 31 #[.pointer none] w (Makes w (.bool true)) := by
  go_enter Tryz.func31, Tryz.ntmps31
  go_wp2
  go_ret
  exact Makes.mk0 _ _
def NewPst (W : World) (max : Int) (R : Asn) (e : Ending) (w' : World) : Prop := ∃ tp, e = .returned (.pointer (some ⟨tp, 0, none⟩)) ∧ St W w' (star (IsT tp max []) R)
set_option maxRecDepth 100000 in
set_option maxHeartbeats 4000000 in
theorem New_any {W w : World} {R : Asn} (max : Int) (h : St W w R) : Calls Tryz.prog 23 #[.int .i64 max] w (NewPst W max R) := by
  have h1 := h.alloc (.cells #[.map none, .pointer none, .pointer none, .string ⟨#[]⟩, (Value.map none)] nt (0, 0))
  have h2 := h1.alloc (.cells #[.int .i64 max, .pointer (some ⟨w.heap.size, 0, none⟩), .slice none 0 0] tt (0, 0))
  rw [World.size_alloc] at h2
  go_enter Tryz.func23, Tryz.ntmps23
  go_wp2
  go_ret
  refine ⟨w.heap.size + 1, rfl, St.toT (root := w.heap.size) (F := [(w.heap.size, bare zV)]) (lv := .slice none 0 0) (InvE.new _ _) Good.nil (h2.eq ?_)⟩
  show star _ (star _ R) = star _ (star (Row 9 1 (.slice none 0 0) 0 []) (star (star (NdA nt w.heap.size (bare zV)) emp) R))
  rw [bare_eq, Row_nil, emp_star, star_emp]
set_option maxRecDepth 100000 in
set_option maxHeartbeats 4000000 in
theorem grow_there {W w : World} {R : Asn} {F : Bag} {p q : Nat} {nd : Nd} (h : St W w (star (Nds nt F) R)) (hd : (F.map (·.1)).Nodup) (hn : getM p F = some nd) (s : Tx) (hs : s ≠ []) (hc : child nd (TrP.keyOf s) = some q) :
    Calls Tryz.prog 62 #[.pointer (some ⟨p, 0, none⟩), .string ⟨s.toArray⟩] w fun e w' => e = .returned (.pointer (some ⟨q, 0, none⟩)) ∧ w = w' := by
  have HU := Lib.hid (under_any h hd hn s hs)
  rw [hc, pV_some] at HU
  clear h hd hn hs hc
  go_enter Tryz.func62, Tryz.ntmps62
  go_wp2_with fail
  refine HU.out.mono ?_
  rintro e w' ⟨rfl, rfl⟩
  go_wp2
  go_ret
  exact ⟨rfl, rfl⟩
def APst (W : World) (tp : Nat) (max : Int) (r : Int × EntsV) (R : Asn) (e : Ending) (w' : World) : Prop := e = .returned (.int .i64 r.1) ∧ St W w' (star (IsT tp max r.2) R)
theorem infoS : (Tryz.prog.info? 9).map (fun i => (i.zero, i.size, i.bytes)) = some (some (.string ByteArray.empty), 1, 16) := by kernel_rfl
theorem addT_no {es : EntsV} {max : Int} {p : Tx} {x : Value} (h : splitP p = none) : addT es max p x = (8, es) := by unfold addT; rw [h]
theorem addT_there {es : EntsV} {max : Int} {p : Tx} {x : Value} {l : List Tx} (h : splitP p = some l) (h2 : (getM (keysOf l) es).isSome = true) : addT es max p x = (5, es) := by unfold addT; rw [h]; simp only [h2, if_true]
theorem addT_full {es : EntsV} {max : Int} {p : Tx} {x : Value} {l : List Tx} (h : splitP p = some l) (h2 : getM (keysOf l) es = none) (h3 : max ≤ (es.length : Int)) : addT es max p x = (6, es) := by unfold addT; rw [h]; simp [h2, h3]
theorem addT_ok {es : EntsV} {max : Int} {p : Tx} {x : Value} {l : List Tx} (h : splitP p = some l) (h2 : getM (keysOf l) es = none) (h3 : ¬ max ≤ (es.length : Int)) : addT es max p x = (0, es ++ [(keysOf l, p, x)]) := by unfold addT; rw [h]; simp [h2, h3]
theorem APst.mk {W w' : World} {tp : Nat} {max : Int} {r : Int × EntsV} {R : Asn} {e : Ending} {n : Int} {es : EntsV} (h : r = (n, es)) (he : e = .returned (.int .i64 n)) (hS : St W w' (star (IsT tp max es) R)) : APst W tp max r R e w' := by subst h; exact ⟨he, hS⟩
set_option maxRecDepth 100000 in
set_option maxHeartbeats 16000000 in
theorem Add_any {W w : World} {R : Asn} (tp : Nat) (max : Int) (es : EntsV) (h : St W w (star (IsT tp max es) R)) (hes : es.length ≤ 1000000) (hm : TrS.MaxLen W) (p : Tx) (hp : p.length ≤ 1000000) (xi : Option Nat) :
    Calls Tryz.prog 42 #[.pointer (some ⟨tp, 0, none⟩), .string ⟨p.toArray⟩, (Value.map xi)] w (APst W tp max (addT es max p (Value.map xi)) R) := by
  obtain ⟨root, F, lv, hi, hg, h1⟩ := St.isT h
  obtain ⟨la, lc, hlv⟩ : ∃ la lc, lv = .slice la es.length lc := by obtain ⟨_, a, c, e, _⟩ := h1.right.rowSl; exact ⟨a, c, e⟩
  subst hlv
  have HNo := Lib.hid (none_any tp root w (h1.cell 1 rfl))
  have HSp := Lib.hid (TrS.split_any p w hp (hm.st h))
  have HM := Lib.hid hm
  have HI := Lib.hid hi
  have HG := Lib.hid hg
  have HH := Lib.hid h
  clear hi hg h hm
  obtain ⟨res, hres⟩ : ∃ res, addT es max p (Value.map xi) = res := ⟨_, rfl⟩
  rw [hres]
  have HRES := Lib.hid hres
  clear hres
  cases hsp : splitP p with
  | none =>
    rw [hsp] at HSp
    have HR2 : Hid (res = (8, es)) := Lib.hid (by rw [← HRES.out]; exact addT_no hsp)
    clear hsp
    go_enter Tryz.func42, Tryz.ntmps42
    go_wp2_with fail
    refine HNo.out.mono ?_
    rintro e w1 ⟨rfl, rfl⟩
    go_wp2_with fail
    refine HSp.out.mono ?_
    rintro e w2 ⟨rfl, hb⟩
    have h3 := HH.out.past hb
    clear h1 hb
    go_wp2
    go_ret
    exact APst.mk HR2.out rfl h3
  | some l =>
    rw [hsp] at HSp
    have hll : l.length ≤ 1000000 := Nat.le_trans (splitP_len hsp) hp
    have HL := Lib.hid hsp
    clear hsp
    go_enter Tryz.func42, Tryz.ntmps42
    go_wp2_with fail
    refine HNo.out.mono ?_
    rintro e w1 ⟨rfl, rfl⟩
    go_wp2_with fail
    refine HSp.out.mono ?_
    rintro e w2 ⟨a2, c2, rfl, h2⟩
    have h3 := St.compR h1 h2
    have h4 := h3.right
    clear h1 h2 HNo HSp
    have HA := Lib.hid (at_any (h4.eq (B := star (Nds nt F) (star (pt tp (.cells #[.int .i64 max, .pointer (some ⟨root, 0, none⟩), .slice la es.length lc] tt (0, 0))) (star (Row 9 1 (.slice la es.length lc) es.length (strsV (pats es))) R))) (by ac_rfl)) HI.out.nodup (clo_of HI.out) tp (h4.cell 1 rfl) a2 l.length c2 l h3.rowSl rfl (splitP_ne HL.out) hll)
    obtain ⟨n, hn⟩ : ∃ n, l.length = n := ⟨_, rfl⟩
    have HN := Lib.hid hn
    rw [hn] at HA h3 hll
    rw [hn]
    clear hn
    go_wp2_with fail
    refine HA.out.mono ?_
    rintro e w3 ⟨rfl, rfl⟩
    clear HA
    cases hv : getM (keysOf l) es with
    | some v =>
      have HR2 : Hid (res = (5, es)) := Lib.hid (by rw [← HRES.out]; exact addT_there HL.out (by rw [hv]; rfl))
      cases hq : reach F root (keysOf l) with
      | none => exact absurd (NE_some (by rw [hv]; rfl)) (HI.out.out _ hq)
      | some q =>
        obtain ⟨_, nd, hnd, hpat, _⟩ := HI.out.node _ _ hq
        simp only [hv] at hpat
        have hpe : (nd.pat == []) = false := by
          obtain ⟨l', hl', _⟩ := HG.out.pat hv
          have := splitP_pat hl'
          rw [hpat]; simpa using this
        have c3 := (takeN (h4.eq (B := star (Nds nt F) (star (pt tp (.cells #[.int .i64 max, .pointer (some ⟨root, 0, none⟩), .slice la es.length lc] tt (0, 0))) (star (Row 9 1 (.slice la es.length lc) es.length (strsV (pats es))) R))) (by ac_rfl)) HI.out.nodup hnd).cell 3 (v := .string ⟨nd.pat.toArray⟩) rfl
        clear hv hq hnd hpat
        rw [pV_some]
        go_wp2
        go_ret
        exact APst.mk HR2.out rfl (St.toT HI.out HG.out h4)
    | none =>
      have hgo : (reach F root (keysOf l) = none) ∨ ∃ q nd, reach F root (keysOf l) = some q ∧ getM q F = some nd ∧ nd.pat = [] := by
        cases hq : reach F root (keysOf l) with
        | none => exact .inl rfl
        | some q =>
          obtain ⟨_, nd, hnd, hpat, _⟩ := HI.out.node _ _ hq
          simp only [hv] at hpat
          exact .inr ⟨q, nd, rfl, hnd, hpat⟩
      have HV := Lib.hid hv
      clear hv
      have c2 := h4.cell 2 rfl
      have c0 := h4.cell 0 rfl
      have c1 := h4.cell 1 rfl
      by_cases hfull : max ≤ (es.length : Int)
      · have HR2 : Hid (res = (6, es)) := Lib.hid (by rw [← HRES.out]; exact addT_full HL.out HV.out hfull)
        have hfd : decide (max ≤ (es.length : Int)) = true := decide_eq_true hfull
        clear hfull
        rcases hgo with hq | ⟨q, nd, hq, hnd, hpat⟩
        all_goals
          rw [hq]
          first | rw [pV_none] | (rw [pV_some]; have c3 := (takeN (h4.eq (B := star (Nds nt F) (star (pt tp (.cells #[.int .i64 max, .pointer (some ⟨root, 0, none⟩), .slice la es.length lc] tt (0, 0))) (star (Row 9 1 (.slice la es.length lc) es.length (strsV (pats es))) R))) (by ac_rfl)) HI.out.nodup hnd).cell 3 (v := .string ⟨nd.pat.toArray⟩) rfl; rw [hpat] at c3; clear hpat hnd)
          clear hq
          go_wp2_with fail
          refine wp_region_canon [0, 1, 2, 3, 4, 5, 6, 7, 8, 9] (by kernel_rfl) (by kernel_rfl) ?_
          simp only [pickOps, nthOp]
          go_wp2_with fail
          simp only [Only]
          go_wp2
          go_ret
          exact APst.mk HR2.out rfl (St.toT HI.out HG.out h4.drew)
      · have HR2 : Hid (res = (0, es ++ [(keysOf l, p, (Value.map xi))])) := Lib.hid (by rw [← HRES.out]; exact addT_ok HL.out HV.out hfull)
        have hfd : decide (max ≤ (es.length : Int)) = false := decide_eq_false hfull
        clear hfull
        have h3d := h3.drew
        have c1d := h3d.right.cell 1 rfl
        have HK : Hid ((keysOf l).length = n) := Lib.hid (by simp [keysOf, HN.out])
        rcases hgo with hq | ⟨q, nd, hq, hnd, hpat⟩
        all_goals
          rw [hq]
          first | rw [pV_none] | (rw [pV_some]; have c3 := (takeN (h4.eq (B := star (Nds nt F) (star (pt tp (.cells #[.int .i64 max, .pointer (some ⟨root, 0, none⟩), .slice la es.length lc] tt (0, 0))) (star (Row 9 1 (.slice la es.length lc) es.length (strsV (pats es))) R))) (by ac_rfl)) HI.out.nodup hnd).cell 3 (v := .string ⟨nd.pat.toArray⟩) rfl; rw [hpat] at c3; clear hpat hnd)
          clear hq
          go_wp2_with fail
          refine wp_region_canon [0, 1, 2, 3, 4, 5, 6, 7, 8, 9] (by kernel_rfl) (by kernel_rfl) ?_
          simp only [pickOps, nthOp]
          go_wp2_with fail
          simp only [Only]
          go_wp2_with fail
          clear h4 c2 c0 c1 c1d
          try clear c3
          go_loopw [10, 50] (fun nv iv wr => ∃ (i q : Nat) (F' : Bag), i ≤ n ∧ iv = .int .i64 i ∧ nv = .pointer (some ⟨q, 0, none⟩) ∧ Hid (Inv F' root (NP es (keysOf l) i) (fun ks => getM ks es)) ∧ Hid (reach F' root ((keysOf l).take i) = some q) ∧ St W wr (star (Nds nt F') (star (Row 9 1 (.slice a2 n c2) n (strsV l)) (star (pt tp (.cells #[.int .i64 max, .pointer (some ⟨root, 0, none⟩), .slice la es.length lc] tt (0, 0))) (star (Row 9 1 (.slice la es.length lc) es.length (strsV (pats es))) R))))) (fun _ iv _ => n - (intOf iv).toNat)
          case atStart => exact ⟨0, root, F, Nat.zero_le _, rfl, rfl, Lib.hid (HI.out.mono (fun ks => (NP_zero es (keysOf l) ks).symm) (fun _ => rfl)), Lib.hid rfl, h3d.eq (by ac_rfl)⟩
          case round =>
            obtain ⟨i, q, F', hi, rfl, rfl, HI2, HQ, hS⟩ := hrel
            clear h3d
            by_cases hin : i < n
            · obtain ⟨y, hy⟩ : ∃ y, l[i]? = some y := ⟨_, List.getElem?_eq_getElem (by rw [HN.out]; exact hin)⟩
              obtain ⟨ab, ao, rfl, hel⟩ := strs_at hS.right.rowSl hy
              have he := hel _ _ (St.start wr)
              have hk : (keysOf l)[i]? = some (TrP.keyOf y) := by unfold keysOf; rw [List.getElem?_map, hy]; rfl
              obtain ⟨_, nd, hnd, _⟩ := HI2.out.node _ _ HQ.out
              have hyne := splitP_ne HL.out y (List.mem_of_getElem? hy)
              have HK2 := Lib.hid hk
              have HND := Lib.hid hnd
              cases hc : child nd (TrP.keyOf y) with
              | some q2 =>
                have HGr := Lib.hid (grow_there hS HI2.out.nodup hnd y hyne hc)
                have HT := Lib.hid (HI2.out.thereP hk HQ.out hnd hc)
                clear hel hk hyne hc hnd hy
                go_wp2_with fail
                refine HGr.out.mono ?_
                rintro e w5 ⟨rfl, rfl⟩
                go_wp2_with fail
                exact ⟨⟨i + 1, q2, F', hin, by go_num, rfl, Lib.hid HT.out.1, Lib.hid HT.out.2, hS⟩, by simp [intOf]; omega⟩
              | none =>
                have HGr := Lib.hid (grow_any hS HI2.out.nodup hnd y hyne hc)
                have HC := Lib.hid hc
                clear hel hk hyne hc hnd hy
                go_wp2_with fail
                refine HGr.out.mono ?_
                rintro e w5 ⟨q2, nd', rfl, hq2, hc2, hp2, hx2, h5⟩
                have HT := Lib.hid (HI2.out.growP (z := zV) HK2.out HQ.out HND.out HC.out hq2 hc2 hp2 hx2)
                clear hq2 hc2 hp2 hx2 he
                go_wp2_with fail
                exact ⟨⟨i + 1, q2, _, hin, by go_num, rfl, Lib.hid HT.out.1, Lib.hid HT.out.2, h5⟩, by simp [intOf]; omega⟩
            · obtain rfl : i = n := by omega
              have hq := HQ.out
              rw [List.take_of_length_le (by rw [HK.out]; exact Nat.le_refl _)] at hq
              obtain ⟨_, nd, hnd, _⟩ := HI2.out.node _ _ HQ.out
              have HD := Lib.hid ((HK.out ▸ HI2.out).doneP hq hnd HV.out p (Value.map xi))
              have HND := Lib.hid hnd
              have HD2 := Lib.hid HI2.out.nodup
              clear hq hnd
              have h6 := takeN hS HD2.out HND.out
              have q3 := h6.cell 3 (v := kS nd.pat) rfl
              have f3 := h6.free 3
              have q4 := h6.cell 4 (v := nd.x) rfl
              have f4 := h6.free 4
              have h7 := (h6.setCell 3 (.string ⟨p.toArray⟩)).setCell 4 (Value.map xi)
              have h8 := backN (nd' := { nd with pat := p, x := (Value.map xi) }) HD2.out HND.out h7
              have h9 := h8.eq (B := star (Row 9 1 (.slice la es.length lc) es.length (strsV (pats es))) (star (pt tp (.cells #[.int .i64 max, .pointer (some ⟨root, 0, none⟩), .slice la es.length lc] tt (0, 0))) (star (Nds nt (putM q { nd with pat := p, x := (Value.map xi) } F')) (star (Row 9 1 (.slice a2 i c2) i (strsV l)) R)))) (by ac_rfl)
              obtain ⟨i0, hi0, hz0, hz1, hz2⟩ := info_parts infoS
              clear h6 h7 h8
              go_upto_region 18 with fail
              clear q3 f3 q4 f4
              generalize World.setCell (World.setCell wr ⟨q, 3, none⟩ (.string ⟨p.toArray⟩)) ⟨q, 4, none⟩ (Value.map xi) = w9 at *
              have t2 := h9.swap.cell 2 rfl
              go_wp2_with (at_builtin; refine wpList_append1 rfl (.tmp 70) (.tmp 72) 55 rfl 9 i0 _ 1 16 Tryz.underlying55 hi0 hz0 hz1 hz2 rfl _ es.length _ rfl h9 #[.string ⟨p.toArray⟩] rfl rfl (by intro u hu; simp at hu; subst hu; rfl) (by unfold maxLen; omega) (by omega) ?_)
              intro a7 c7 w7 h10
              have h11 := h10.swap
              have g2 := h11.cell 2 rfl
              have gf := h11.free 2
              have h12 := h11.setCell 2 (.slice (some ⟨a7, 0, none⟩) (es.length + 1) c7)
              clear t2 h9 h10
              go_wp2
              go_ret
              have HG2 : TrP.Good (es ++ [(keysOf l, p, (Value.map xi))]) := HG.out.snoc HL.out HV.out (Value.map xi)
              refine APst.mk HR2.out rfl (St.toT (root := root) (lv := .slice (some ⟨a7, 0, none⟩) (es.length + 1) c7) HD.out HG2 ?_)
              have e1 : (es ++ [(keysOf l, p, (Value.map xi))]).length = es.length + 1 := by simp
              have e2 : strsV (pats (es ++ [(keysOf l, p, (Value.map xi))])) = strsV (pats es) ++ [.string ⟨p.toArray⟩] := by simp [pats, strsV]
              rw [e1, e2]
              have h13 : St W _ (star (pt tp (.cells #[.int .i64 max, .pointer (some ⟨root, 0, none⟩), .slice (some ⟨a7, 0, none⟩) (es.length + 1) c7] tt (0, 0))) _) := h12
              exact (h13.eq (B := star (Row 9 1 (.slice a2 i c2) i (strsV l)) (star (pt tp (.cells #[.int .i64 max, .pointer (some ⟨root, 0, none⟩), .slice (some ⟨a7, 0, none⟩) (es.length + 1) c7] tt (0, 0))) (star (Row 9 1 (.slice (some ⟨a7, 0, none⟩) (es.length + 1) c7) (es.length + 1) (strsV (pats es) ++ [.string ⟨p.toArray⟩])) (star (Nds nt (putM q { nd with pat := p, x := (Value.map xi) } F')) R)))) (by ac_rfl)).right
end Go.Proofs.YtlofiaaacepgmaaGreatDoor.TrCm
