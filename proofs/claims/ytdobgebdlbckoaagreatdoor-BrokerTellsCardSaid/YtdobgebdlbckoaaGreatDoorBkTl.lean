import Derived.Test.YtdobgebdlbckoaaGreatDoorBkTp
import Derived.Test.YtdobgebdlbckoaaGreatDoorBkG
import Derived.Test.YtdobgebdlbckoaaGreatDoorBkO
import Derived.Test.YtdobgebdlbckoaaGreatDoorBkU
namespace Go.Proofs.YtdobgebdlbckoaaGreatDoor.BkTl
open Go Go.RowKit Go.Proofs Go.Proofs.YtdobgebdlbckoaaGreatDoor.Sep Go.Proofs.YtdobgebdlbckoaaGreatDoor.Reg Go.Proofs.YtdobgebdlbckoaaGreatDoor.Frame Go.Proofs.YtdobgebdlbckoaaGreatDoor.Mp Go.Proofs.YtdobgebdlbckoaaGreatDoor.WdP Go.Proofs.YtdobgebdlbckoaaGreatDoor.WdN Go.Proofs.YtdobgebdlbckoaaGreatDoor.TpP Go.Proofs.YtdobgebdlbckoaaGreatDoor.TpA Go.Proofs.YtdobgebdlbckoaaGreatDoor.BkP Go.Proofs.YtdobgebdlbckoaaGreatDoor.BkA Go.Proofs.YtdobgebdlbckoaaGreatDoor.BkB Go.Proofs.YtdobgebdlbckoaaGreatDoor.BkC Go.Proofs.YtdobgebdlbckoaaGreatDoor.BkD Go.Proofs.YtdobgebdlbckoaaGreatDoor.BkW Go.Proofs.YtdobgebdlbckoaaGreatDoor.BkU Go.Proofs.YtdobgebdlbckoaaGreatDoor.BkLp Go.Proofs.YtdobgebdlbckoaaGreatDoor.BkG Go.Proofs.YtdobgebdlbckoaaGreatDoor.BkTp
def GlE (W : World) : Prop := Gl W ∧ Er W
theorem Inv.len {b : BS} {m : Nat} (h : Inv b m) (hm : m ≤ 1000000) : b.2.length ≤ 1000000 := Nat.le_trans h.ok.prs hm
theorem Inv.cnt {b : BS} {m : Nat} (h : Inv b m) (hm : m ≤ 1000000) : ∀ e ∈ b.1, e.2 ≤ 1000000 := fun e he => Nat.le_trans (h.ok.ids e he).2.2 hm
theorem elI_at {w : World} {b o n c : Nat} {l : List Int} (h : Sl w 1 (.slice (some ⟨b, o, none⟩) n c) n (l.map kI)) {i : Nat} {x : Int} (hx : l[i]? = some x) : w.cell? ⟨b, o + i, none⟩ = some (.int .i64 x) := by
  have hg : (l.map kI)[i]? = some (kI x) := by rw [List.getElem?_map, hx]; rfl
  obtain ⟨ab, ao, e, hc⟩ := sl_addr h (by have := (List.getElem?_eq_some_iff.1 hg).1; omega)
  cases e
  simpa using hc i _ hg
theorem isM_keys (b : BS) (id : Int) : decide (id ∈ sortI (b.1.map (·.1))) = isM b id := by
  have h1 : id ∈ sortI (b.1.map (·.1)) ↔ id ∈ b.1.map (·.1) := (List.mergeSort_perm _ _).mem_iff
  unfold isM
  cases hg : getM id b.1 with
  | none =>
    have := getM_none.1 hg
    simp only [Option.isSome_none, decide_eq_false_iff_not, h1]
    exact this
  | some v =>
    simp only [Option.isSome_some, decide_eq_true_eq, h1]
    exact List.mem_map.2 ⟨_, getM_mem hg, rfl⟩
/-- What Parse hands back, in one form. -/
theorem cmd_form (s : Tx) (hs : s.length ≤ 100) : ∃ (k : Nat) (t d : Tx) (ok : Bool), WdC.cmdV (parseW s) = .tuple #[.agg #[.int .i64 (k : Nat), kS t, kS d], .bool ok] ∧ t.length ≤ 100 ∧ ((ok = false ∧ parseW s = none) ∨ (ok = true ∧ parseW s = some (k, t, d))) := by
  cases hp : parseW s with
  | none => exact ⟨0, [], [], false, rfl, by simp, .inl ⟨rfl, rfl⟩⟩
  | some c =>
    obtain ⟨k, t, d⟩ := c
    have := (BkD.parse_le hp).1
    exact ⟨k, t, d, true, rfl, Nat.le_trans this hs, .inr ⟨rfl, rfl⟩⟩
set_option maxRecDepth 100000 in
set_option maxHeartbeats 32000000 in
theorem tells_any {W : World} (hG : GlE W) (a0 : Option Addr) (len0 cap0 : Nat) (xs : List BkG.Act) (hlen : xs.length = len0) (hsl : Sl W 4 (.slice a0 len0 cap0) len0 (xs.flatMap ActC.E)) (_ : ∀ x ∈ xs, ActC.Ok x) :
    Calls Tryz.prog 7 #[.slice a0 len0 cap0] W (Law W emp) := by
  have HSL := Lib.hid hsl
  have HLEN := Lib.hid hlen
  have HG := Lib.hid hG.1
  have HE := Lib.hid hG.2
  have HGr := Lib.hid (Great_any a0 len0 cap0 xs hlen W hsl)
  clear hsl hlen hG
  go_enter Tryz.func7, Tryz.ntmps7
  go_wp2_with fail
  refine HGr.out.mono ?_
  rintro e w1 ⟨gb, hq, hgb⟩
  have h1 := (St.start W).makes hq
  obtain ⟨rfl, -⟩ := hq
  clear HGr
  cases gb with
  | true =>
    have HW := Lib.hid (wakes_any HG.out h1)
    go_wp2_with fail
    refine HW.out.mono ?_
    rintro e w2 ⟨rfl, h2⟩
    go_wp2
    go_ret
    exact ⟨rfl, h2⟩
  | false =>
    obtain ⟨hl150, hl100⟩ := hgb rfl
    have HL := Lib.hid hl100
    have hb : len0 ≤ 150 := by have := HLEN.out; omega
    clear hgb hl100 hl150
    have HN := Lib.hid (BkA.New_any h1)
    go_wp2_with fail
    refine HN.out.mono ?_
    rintro e w2 ⟨p, rfl, h2⟩
    clear HN h1
    have hmm := @run_makeMap Tryz.prog
    have h3 := St.newMp kI h2
    obtain ⟨lb, hlb⟩ : ∃ lb, w2.heap.size = lb := ⟨_, rfl⟩
    rw [hlb] at h3
    go_wp2_with fail
    clear hlb hmm
    generalize w2.alloc (.map #[] 0) = w3 at *
    go_loopw [5] (fun iv wr => ∃ (i : Nat) (b : BS) (L : Pub), i ≤ len0 ∧ iv = .int .i64 i ∧ Hid (Inv b i) ∧ Hid (Lst L b) ∧ St W wr (star (IsB p b) (star (Mp kI lb (pubV L)) emp))) (fun iv _ => len0 - (intOf iv).toNat)
    case atStart => exact ⟨0, ([], []), [], Nat.zero_le _, rfl, Lib.hid Inv.nil, Lib.hid (fun _ h => by cases h), h3.swap⟩
    case round =>
      as_aux_lemma =>
        obtain ⟨i, b, L, hi, rfl, HI, HLs, hS⟩ := hrel
        clear h2 h3
        by_cases hin : i < len0
        · obtain ⟨x, hx⟩ : ∃ x, xs[i]? = some x := ⟨_, List.getElem?_eq_getElem (by rw [HLEN.out]; exact hin)⟩
          obtain ⟨ab, ao, rfl, hel⟩ := act_at_all HSL.out hx
          have e0 := hel _ _ hS 0 _ rfl
          rw [Nat.add_zero] at e0
          have e1 := hel _ _ hS 1 _ rfl
          have e2 := hel _ _ hS 2 _ rfl
          have e3 := hel _ _ hS 3 _ rfl
          have hinI : (i : Int) < len0 := by omega
          have hxl := HL.out x (List.mem_of_getElem? hx)
          clear hel hx
          have hA := hS.alloc (.cells #[.int .u8 x.d, .int .i64 x.k, .int .i64 x.o, .string ⟨x.t.toArray⟩] 28 (0, 0))
          obtain ⟨xb, hxb⟩ : ∃ z, wr.heap.size = z := ⟨_, rfl⟩
          rw [hxb] at hA
          go_upto_region 9 with fail
          clear hxb hS e0 e1 e2 e3
          generalize wr.alloc (.cells #[.int .u8 x.d, .int .i64 x.k, .int .i64 x.o, .string ⟨x.t.toArray⟩] 28 (0, 0)) = wa at *
          -- B
          obtain ⟨AX, hAX⟩ : ∃ A : Asn, pt xb (.cells #[.int .u8 x.d, .int .i64 x.k, .int .i64 x.o, .string ⟨x.t.toArray⟩] 28 (0, 0)) = A := ⟨_, rfl⟩
          rw [hAX] at hA
          have HX : Hid (∀ w' B, St W w' (star AX B) → w'.cell? ⟨xb, 0, none⟩ = some (.int .u8 x.d) ∧ w'.cell? ⟨xb, 1, none⟩ = some (.int .i64 x.k) ∧ w'.cell? ⟨xb, 2, none⟩ = some (.int .i64 x.o) ∧ w'.cell? ⟨xb, 3, none⟩ = some (.string ⟨x.t.toArray⟩)) := Lib.hid fun w' B h => by
            rw [← hAX] at h
            exact ⟨h.cell 0 rfl, h.cell 1 rfl, h.cell 2 rfl, h.cell 3 rfl⟩
          obtain ⟨c0, c1, c2, c3⟩ := HX.out wa _ hA
          clear hAX
          have hB : St W wa (star (IsB p b) (star (Mp kI lb (pubV L)) (star AX emp))) := hA.eq (by ac_rfl)
          clear hA
          have HIl := Lib.hid (Inv.len HI.out (by omega))
          by_cases d0 : x.d = 0
          · rw [d0] at c0
            have HJ := Lib.hid (Join_any p b hB x.k)
            obtain ⟨⟨rv, bn⟩, hr⟩ : ∃ r, joinB b x.k = r := ⟨_, rfl⟩
            have HI2 := Lib.hid (HI.out.join x.k)
            by_cases hj : rv = 0
            · have HL2 := Lib.hid (HLs.out.join (id := x.k) (by rw [hr]; exact hj))
              subst hj
              rw [hr] at HJ HI2 HL2
              clear d0 hr hB
              go_wp2_with fail
              refine HJ.out.mono ?_
              rintro e w4 ⟨rfl, h4⟩
              clear HJ c0 c1 c2 c3
              have c1 := (HX.out w4 _ (h4.eq (B := star AX (star (IsB p bn) (star (Mp kI lb (pubV L)) emp))) (by show star _ (star _ (star _ _)) = _; ac_rfl))).2.1
              have hM := h4.swap
              go_wp2_with (at_mapUpdate; refine wpList_mapUpdate TpI.cI rfl (.tmp 222) (.tmp 224) _ rfl Tryz.underlying58 Tryz.underlying3 rfl hM x.k (.int .i64 0) rfl rfl ?_; intro w5 h5)
              have e : putM x.k (Value.int .i64 0) (pubV L) = pubV (putM x.k 0 L) := mapV_put nV x.k 0 L
              rw [e] at h5
              go_wp2_with fail
              have h6 := h5.eq (B := star AX (star (IsB p bn) (star (Mp kI lb (pubV (putM x.k 0 L))) emp))) (by show star _ (star _ (star _ _)) = _; ac_rfl)
              exact ⟨⟨i + 1, bn, putM x.k 0 L, hin, by go_num, HI2, HL2, h6.right⟩, by simp [intOf]; omega⟩
            · have HL2 := Lib.hid (HLs.out.join_not (id := x.k) (by rw [hr]; exact hj))
              have hjb : (rv == 0) = false := by simpa using hj
              rw [hr] at HJ HI2 HL2
              clear d0 hr hB hj
              go_wp2_with fail
              refine HJ.out.mono ?_
              rintro e w4 ⟨rfl, h4⟩
              clear HJ
              go_wp2_with fail
              have h6 := h4.eq (B := star AX (star (IsB p bn) (star (Mp kI lb (pubV L)) emp))) (by show star _ (star _ (star _ _)) = _; ac_rfl)
              exact ⟨⟨i + 1, bn, L, hin, by go_num, HI2, HL2, h6.right⟩, by simp [intOf]; omega⟩
          · by_cases d1 : x.d = 1
            · rw [d1] at c0
              have HLv := Lib.hid (Leave_any p b hB HIl.out x.k)
              have HI2 := Lib.hid (HI.out.leave x.k)
              have HL2 := Lib.hid (HLs.out.leave x.k)
              obtain ⟨⟨rv, bn⟩, hr⟩ : ∃ r, leaveB b x.k = r := ⟨_, rfl⟩
              rw [hr] at HLv HI2 HL2
              clear d0 d1 hr hB
              go_wp2_with fail
              refine HLv.out.mono ?_
              rintro e w4 ⟨rfl, h4⟩
              clear HLv
              go_wp2_with fail
              have h6 := h4.eq (B := star AX (star (IsB p bn) (star (Mp kI lb (pubV L)) emp))) (by show star _ (star _ (star _ _)) = _; ac_rfl)
              exact ⟨⟨i + 1, bn, L, hin, by go_num, HI2, HL2, h6.right⟩, by simp [intOf]; omega⟩
            · have d0b : (x.d == 0) = false := by simpa using d0
              have d1b : (x.d == 1) = false := by simpa using d1
              clear d0 d1
              obtain ⟨k, t, d, ok, hq, htl, hok⟩ := cmd_form x.t hxl
              have HP := Lib.hid (WdC.Parse_any x.t _ hq wa (HG.out.st hB) (by omega))
              have HOK := Lib.hid hok
              clear hq hok
              go_wp2_with fail
              refine HP.out.mono ?_
              rintro e w5 hq5
              have h5 := hB.makes hq5
              obtain ⟨rfl, -⟩ := hq5
              have hC := h5.alloc (.cells #[.int .i64 (k : Nat), kS t, kS d] 60 (0, 0))
              obtain ⟨cb, hcb⟩ : ∃ z, w5.heap.size = z := ⟨_, rfl⟩
              rw [hcb] at hC
              clear HP hB c0 c1 c2 c3 d0b d1b
              go_upto_region 11 with fail
              clear hcb h5
              generalize w5.alloc (.cells #[.int .i64 (k : Nat), kS t, kS d] 60 (0, 0)) = w6 at *
              obtain ⟨CX, hCX⟩ : ∃ A : Asn, pt cb (.cells #[.int .i64 (k : Nat), kS t, kS d] 60 (0, 0)) = A := ⟨_, rfl⟩
              rw [hCX] at hC
              have HCX : Hid (∀ w' B, St W w' (star CX B) → w'.cell? ⟨cb, 0, none⟩ = some (.int .i64 (k : Nat)) ∧ w'.cell? ⟨cb, 1, none⟩ = some (kS t) ∧ w'.cell? ⟨cb, 2, none⟩ = some (kS d)) := Lib.hid fun w' B h => by
                rw [← hCX] at h
                exact ⟨h.cell 0 rfl, h.cell 1 rfl, h.cell 2 rfl⟩
              clear hCX
              have g1 := (HCX.out w6 _ hC).2.1
              have h6 : St W w6 (star (IsB p b) (star (Mp kI lb (pubV L)) (star AX (star CX emp)))) := hC.eq (by ac_rfl)
              have HOf := Lib.hid (BkO.Of_any p b h6 HIl.out t)
              clear hC
              go_wp2_with fail
              refine HOf.out.mono ?_
              rintro e w7 ⟨fa, fn, fc, rfl, hfn, h7⟩
              have HFN := Lib.hid hfn
              clear HOf h6 g1 hfn
              have HMe := Lib.hid (Members_any p b h7.swap (Nat.le_trans HI.out.ok.few (by omega)))
              go_wp2_with fail
              refine HMe.out.mono ?_
              rintro e w8 ⟨ma, mc, rfl, h8⟩
              clear HMe h7
              obtain ⟨M, hM⟩ : ∃ M, sortI (b.1.map (·.1)) = M := ⟨_, rfl⟩
              obtain ⟨nm, hnm⟩ : ∃ n, b.1.length = n := ⟨_, rfl⟩
              have HMN : Hid (M.length = nm) := Lib.hid (by rw [← hM, sortI_len, ← hnm]; simp)
              have HMI : Hid (decide (x.k ∈ M) = isM b x.k) := Lib.hid (by rw [← hM]; exact isM_keys b x.k)
              rw [hM, hnm] at h8
              have hnm2 : nm ≤ 150 := by have := HI.out.ok.few; omega
              rw [hnm]
              clear hM hnm
              go_wp2_with fail
              go_loopw [10, 12] (fun sv jv wy => ∃ j : Nat, j ≤ nm ∧ jv = .int .i64 j ∧ sv = .bool (decide (x.k ∈ M.take j)) ∧ St W wy (star (Row 3 1 (.slice ma nm mc) nm (M.map kI)) (star (IsB p b) (star (Row 3 1 (.slice fa fn fc) fn ((ofP b.2 t).map kI)) (star (Mp kI lb (pubV L)) (star AX (star CX emp))))))) (fun _ jv _ => nm - (intOf jv).toNat)
              case atStart => exact ⟨0, Nat.zero_le _, rfl, by simp, h8⟩
              case round =>
                as_aux_lemma =>
                  obtain ⟨j, hj, rfl, rfl, hT⟩ := hrel
                  clear h8
                  by_cases hjn : j < nm
                  · obtain ⟨y, hy⟩ : ∃ y, M[j]? = some y := ⟨_, List.getElem?_eq_getElem (by rw [HMN.out]; exact hjn)⟩
                    obtain ⟨zb, zq, rfl, -⟩ := elI hT.rowSl hy
                    have z1 := elI_at hT.rowSl hy
                    have c1 := (HX.out wr _ (hT.eq (B := star AX (star (Row 3 1 (.slice (some ⟨zb, zq, none⟩) nm mc) nm (M.map kI)) (star (IsB p b) (star (Row 3 1 (.slice fa fn fc) fn ((ofP b.2 t).map kI)) (star (Mp kI lb (pubV L)) (star CX emp)))))) (by ac_rfl))).2.1
                    have hjnI : (j : Int) < nm := by omega
                    have HMS : Hid (decide (x.k ∈ M.take (j + 1)) = (decide (x.k ∈ M.take j) || (y == x.k))) := Lib.hid (by
                      rw [List.take_add_one, hy]
                      by_cases h1 : x.k ∈ M.take j
                      · simp [h1]
                      · by_cases h2 : y = x.k
                        · simp [h2]
                        · simp [h1, h2, Ne.symm h2])
                    clear hy
                    cases hth : decide (x.k ∈ M.take j)
                    · rw [hth] at HMS
                      clear hth
                      cases hyt : (y == x.k)
                      · rw [hyt] at HMS
                        go_wp2_with fail
                        go_big_quiet (fail)
                        go_wp2_with fail
                        exact ⟨⟨j + 1, hjn, by go_num, by rw [HMS.out]; rfl, hT.drewN nq⟩, by simp [intOf]; omega⟩
                      · rw [hyt] at HMS
                        go_wp2_with fail
                        go_big_quiet (fail)
                        go_wp2_with fail
                        exact ⟨⟨j + 1, hjn, by go_num, by rw [HMS.out]; rfl, hT.drewN nq⟩, by simp [intOf]; omega⟩
                    · rw [hth] at HMS
                      clear hth
                      go_wp2_with fail
                      go_big_quiet (fail)
                      go_wp2_with fail
                      exact ⟨⟨j + 1, hjn, by go_num, by rw [HMS.out]; rfl, hT.drewN nq⟩, by simp [intOf]; omega⟩
                  · obtain rfl : nm = j := by omega
                    have hall : decide (x.k ∈ M.take nm) = isM b x.k := by rw [List.take_of_length_le (by rw [HMN.out]; exact Nat.le_refl _)]; exact HMI.out
                    rw [hall]
                    clear hall
                    have h8 : St W wr (star (IsB p b) (star (Row 3 1 (.slice fa fn fc) fn ((ofP b.2 t).map kI)) (star (Mp kI lb (pubV L)) (star AX (star CX emp))))) := hT.right
                    obtain ⟨c0, c1, c2, c3⟩ := HX.out wr _ (h8.eq (B := star AX (star (IsB p b) (star (Row 3 1 (.slice fa fn fc) fn ((ofP b.2 t).map kI)) (star (Mp kI lb (pubV L)) (star CX emp))))) (by ac_rfl))
                    have HD := Lib.hid (Do_any p b h8 HIl.out (Inv.cnt HI.out (by omega)) HG.out x.k x.o x.t (by omega))
                    have HI2 := Lib.hid (HI.out.do_ x.k x.o x.t)
                    obtain ⟨r, hr⟩ : ∃ r, doB b x.k x.o x.t = r := ⟨_, rfl⟩
                    rw [hr] at HD HI2
                    have HR := Lib.hid hr
                    clear hT hr h8 c0
                    cases hm : isM b x.k with
                    | false =>
                      obtain rfl : r = ([], b) := by rw [← HR.out]; unfold doB; rw [hm]; rfl
                      clear hm
                      go_wp2_with fail
                      refine HD.out.mono ?_
                      rintro e w9 ⟨oa, on, oc, rfl, hon, h9⟩
                      obtain rfl : 0 = on := hon
                      clear HD c1 c2 c3
                      go_wp2_with fail
                      have h11 := h9.right.eq (B := star AX (star CX (star (Row 3 1 (.slice fa fn fc) fn ((ofP b.2 t).map kI)) (star (IsB p b) (star (Mp kI lb (pubV L)) emp))))) (by show star _ (star _ (star _ (star _ _))) = _; ac_rfl)
                      exact ⟨⟨i + 1, b, L, hin, by go_num, HI2, HLs, h11.right.right.right⟩, by simp [intOf]; omega⟩
                    | true =>
                      have HM := Lib.hid hm
                      clear hm
                      go_wp2_with fail
                      refine HD.out.mono ?_
                      rintro e w9 ⟨oa, on, oc, rfl, hon, h9⟩
                      have HON := Lib.hid hon
                      clear HD c1 c2 c3 hon
                      by_cases hpub : ok = true ∧ k = 3
                      · obtain ⟨rfl, rfl⟩ := hpub
                        have HPs : Hid (parseW x.t = some (3, t, d)) := Lib.hid (by rcases HOK.out with ⟨h, -⟩ | ⟨-, h⟩; cases h; exact h)
                        have hdo := do_pub3 (op := x.o) HM.out HPs.out
                        rw [HR.out] at hdo
                        obtain ⟨n0, hn0⟩ : ∃ n0, (getM x.k b.1).getD 0 = n0 := ⟨_, rfl⟩
                        have hnn : n0 ≤ 1000000 := by
                          rw [← hn0]
                          cases e : getM x.k b.1 with
                          | none => simp
                          | some v => exact Inv.cnt HI.out (by omega) _ (getM_mem e)
                        have hlg : (getM x.k L).getD 0 = n0 := by rw [HLs.out.get HM.out]; exact hn0
                        obtain ⟨kk, hkk, hh1, hh2⟩ := tell_hear HI.out HM.out HPs.out hxl (n0 + 1) (by omega)
                        obtain ⟨TX, hTX⟩ : ∃ TX, tellT t x.k (n0 + 1) d = TX := ⟨_, rfl⟩
                        rw [hTX] at hh1 hh2
                        have HPB : Hid (r.1 = (ofP b.2 t).map fun z => (z, x.o, TX)) := Lib.hid (by rw [hdo]; unfold pubB; simp only; rw [hn0, hTX])
                        have HB21 : Hid ((getM x.k r.2.1).getD 0 = n0 + 1) := Lib.hid (by rw [hdo]; unfold pubB; simp only; rw [hn0, getM_put, if_pos rfl]; rfl)
                        have HL2 : Hid (Lst (putM x.k (n0 + 1) L) r.2) := Lib.hid (by rw [hdo]; exact HLs.out.pub HM.out x.o t d (by rw [hn0]))
                        obtain rfl : fn = on := by
                          rw [← HFN.out, ← HON.out, HPB.out]; simp
                        have HHr := Lib.hid fun (w' : World) (hg : Gl w') (he : Er w') => WdH.Hear_any TX (.tuple #[.agg #[kS t, .int .i64 x.k, .int .i64 ((n0 + 1 : Nat) : Int), kS d], .bool true]) (by rw [hh1, hkk]; rfl) w' hg he (by omega)
                        have hfn2 : fn ≤ 150 := by rw [← HFN.out]; exact Nat.le_trans (TpI.ofP_le b.2 t) (Nat.le_trans HI.out.ok.prs (by omega))
                        clear hh1 hh2 hkk hTX hn0 hdo
                        have h10 := h9.eq (B := star (Mp kI lb (pubV L)) (star CX (star AX (star (Row 40 3 (.slice oa fn oc) fn (outsV r.1)) (star (IsB p r.2) (star (Row 3 1 (.slice fa fn fc) fn ((ofP b.2 t).map kI)) emp)))))) (by ac_rfl)
                        have g0 := (HCX.out w9 _ h10.right).1
                        have c1 := (HX.out w9 _ h10.right.right).2.1
                        have hlk := look1 h10 x.k
                        rw [hlg] at hlk
                        clear h9 hlg
                        go_wp2_with (at_mapUpdate; refine wpList_mapUpdate TpI.cI rfl (.tmp 140) (.tmp 142) (.tmp 144) rfl Tryz.underlying58 Tryz.underlying3 rfl h10 x.k (.int .i64 ((n0 + 1 : Nat) : Int)) rfl rfl ?_; intro w10 h11; go_frame)
                        have e : putM x.k (Value.int .i64 ((n0 + 1 : Nat) : Int)) (pubV L) = pubV (putM x.k (n0 + 1) L) := mapV_put nV x.k (n0 + 1) L
                        rw [e] at h11
                        clear e hlk g0 c1 h10
                        obtain ⟨L2, hL2⟩ : ∃ L2, putM x.k (n0 + 1) L = L2 := ⟨_, rfl⟩
                        have HG2 : Hid ((getM x.k L2).getD 0 = n0 + 1) := Lib.hid (by rw [← hL2, getM_put, if_pos rfl]; rfl)
                        rw [hL2] at h11 HL2
                        clear hL2
                        obtain ⟨n1, hn1⟩ : ∃ n1, n0 + 1 = n1 := ⟨_, rfl⟩
                        rw [hn1] at HHr HB21 HG2
                        clear hn1 hnn
                        have HLK : Hid (∀ w' B, St W w' (star (Mp kI lb (pubV L2)) B) → (Instr.lookup 58 (.map (some lb)) (.int .i64 x.k) false).run Tryz.prog w' = .ok (.int .i64 (n1 : Nat)) w') := Lib.hid fun w' B h => by
                          have h1 := look1 h x.k
                          rw [HG2.out] at h1
                          exact h1
                        have hlk : ∀ n, (Instr.lookup 58 (.map (some lb)) (.int .i64 x.k) false).run Tryz.prog (w10.drewN n) = .ok (.int .i64 (n1 : Nat)) (w10.drewN n) := fun n => HLK.out _ _ (h11.drewN n)
                        have HPb := Lib.hid fun n => Published_any p r.2 ((h11.drewN n).eq (B := star (IsB p r.2) (star (Mp kI lb (pubV L2)) (star CX (star AX (star (Row 40 3 (.slice oa fn oc) fn (outsV r.1)) (star (Row 3 1 (.slice fa fn fc) fn ((ofP b.2 t).map kI)) emp)))))) (by ac_rfl)) x.k
                        rw [HB21.out] at HPb
                        have c1 := (HX.out w10 _ h11.right.right).2.1
                        go_wp2_with fail
                        go_big_quiet ((go_at_call 17; exact (HPb.out _).mono fun e w h => ⟨h.1, _, h.2.symm⟩))
                        have h12 := h11.drewN nq
                        clear hlk HPb c1 h11
                        generalize w10.drewN nq = w11 at *
                        go_wp2_with fail
                        go_loopw [17] (fun qv wz => ∃ q : Nat, q ≤ fn ∧ qv = .int .i64 q ∧ St W wz (star (Mp kI lb (pubV L2)) (star CX (star AX (star (Row 40 3 (.slice oa fn oc) fn (outsV r.1)) (star (IsB p r.2) (star (Row 3 1 (.slice fa fn fc) fn ((ofP b.2 t).map kI)) emp))))))) (fun qv _ => fn - (intOf qv).toNat)
                        case atStart => exact ⟨0, Nat.zero_le _, rfl, h12⟩
                        case round =>
                          as_aux_lemma =>
                            obtain ⟨q, hq, rfl, hT⟩ := hrel
                            clear h12
                            by_cases hqn : q < fn
                            · obtain ⟨z, hz⟩ : ∃ z, (ofP b.2 t)[q]? = some z := ⟨_, List.getElem?_eq_getElem (by rw [HFN.out]; exact hqn)⟩
                              have ho : r.1[q]? = some (z, x.o, TX) := by rw [HPB.out, List.getElem?_map, hz]; rfl
                              have hR := hT.eq (B := star (Row 40 3 (.slice oa fn oc) fn (outsV r.1)) (star (Row 3 1 (.slice fa fn fc) fn ((ofP b.2 t).map kI)) (star (Mp kI lb (pubV L2)) (star CX (star AX (star (IsB p r.2) emp)))))) (by ac_rfl)
                              obtain ⟨qb, qo, rfl, o1, o2, o3⟩ := elO hR.rowSl ho
                              obtain ⟨fb, fo, rfl, -⟩ := elI hR.right.rowSl hz
                              have HH := Lib.hid (HHr.out wr (HG.out.st hT) (HE.out.st hT))
                              have hqI : (q : Int) < fn := by omega
                              have HO := Lib.hid ho
                              have HZ := Lib.hid hz
                              clear ho hz hT o1 o2
                              go_wp2_with fail
                              refine HH.out.mono ?_
                              rintro e w12 hq12
                              have h13 := hR.makes hq12
                              obtain ⟨rfl, -⟩ := hq12
                              clear HH hR o3
                              have h14 := h13.alloc (.cells #[kS t, .int .i64 x.k, .int .i64 (n1 : Nat), kS d] 66 (0, 0))
                              obtain ⟨db, hdb⟩ : ∃ z, w12.heap.size = z := ⟨_, rfl⟩
                              rw [hdb] at h14
                              go_upto_region 38 with fail
                              clear hdb h13
                              generalize w12.alloc (.cells #[kS t, .int .i64 x.k, .int .i64 (n1 : Nat), kS d] 66 (0, 0)) = w13 at *
                              obtain ⟨_, _, he, o1, o2, -⟩ := elO h14.right.rowSl HO.out
                              cases he
                              have f1 := elI_at h14.right.right.rowSl HZ.out
                              have d0 := h14.cell 0 (v := kS t) rfl
                              have d1 := h14.cell 1 (v := .int .i64 x.k) rfl
                              have d2 := h14.cell 2 (v := .int .i64 (n1 : Nat)) rfl
                              have d3 := h14.cell 3 (v := kS d) rfl
                              obtain ⟨-, g1, g2⟩ := HCX.out w13 _ h14.right.right.right.right
                              obtain ⟨-, c1, c2, -⟩ := HX.out w13 _ h14.right.right.right.right.right
                              have hlk : ∀ n, (Instr.lookup 58 (.map (some lb)) (.int .i64 x.k) false).run Tryz.prog (w13.drewN n) = .ok (.int .i64 (n1 : Nat)) (w13.drewN n) := fun n => HLK.out _ _ (h14.drewN n).right.right.right
                              go_wp2_with fail
                              go_big_quiet (fail)
                              go_wp2_with fail
                              have h15 := (h14.drewN nq).right.eq (B := star (Mp kI lb (pubV L2)) (star CX (star AX (star (Row 40 3 (.slice (some ⟨qb, qo, none⟩) fn oc) fn (outsV r.1)) (star (IsB p r.2) (star (Row 3 1 (.slice (some ⟨fb, fo, none⟩) fn fc) fn ((ofP b.2 t).map kI)) emp)))))) (by ac_rfl)
                              exact ⟨⟨q + 1, hqn, by go_num, h15⟩, by simp [intOf]; omega⟩
                            · obtain rfl : fn = q := by omega
                              go_wp2_with fail
                              have h16 := hT.eq (B := star (Row 3 1 (.slice fa fn fc) fn ((ofP b.2 t).map kI)) (star (Row 40 3 (.slice oa fn oc) fn (outsV r.1)) (star CX (star AX (star (IsB p r.2) (star (Mp kI lb (pubV L2)) emp)))))) (by ac_rfl)
                              exact ⟨⟨i + 1, r.2, L2, hin, by go_num, HI2, HL2, h16.right.right.right.right⟩, by simp [intOf]; omega⟩
                      · have hs : parseW x.t = none ∨ ∃ c, parseW x.t = some c ∧ c.1 ≠ 3 := by
                          rcases HOK.out with ⟨-, h⟩ | ⟨h1, h⟩
                          · exact .inl h
                          · exact .inr ⟨_, h, fun hk => hpub ⟨h1, hk⟩⟩
                        obtain ⟨hl2, hor⟩ := do_else (op := x.o) HLs.out HM.out hs
                        rw [HR.out] at hl2 hor
                        have HL2 := Lib.hid hl2
                        have HO : Hid (∀ o ∈ r.1, ∃ m : Nat, 1 ≤ m ∧ m ≤ 3 ∧ o = (x.k, 1, errT m)) := Lib.hid (by
                          intro o ho
                          rcases hor with ⟨h, -⟩ | ⟨m, h1, h2, h⟩
                          · rw [h] at ho; cases ho
                          · rw [h] at ho; simp at ho; exact ⟨m, h1, h2, ho⟩)
                        have hon1 : on ≤ 1 := by
                          rw [← HON.out]
                          rcases hor with ⟨h, -⟩ | ⟨m, h1, h2, h⟩ <;> simp [h]
                        have hokn : ok = false → on = 1 := fun h0 => by
                          rw [← HON.out]
                          rcases hor with ⟨h, hne⟩ | ⟨m, h1, h2, h⟩
                          · rcases HOK.out with ⟨-, h3⟩ | ⟨h3, -⟩
                            · exact absurd h3 hne
                            · rw [h0] at h3; cases h3
                          · simp [h]
                        have g0 := (HCX.out w9 _ (h9.eq (B := star CX (star AX (star (Row 40 3 (.slice oa on oc) on (outsV r.1)) (star (IsB p r.2) (star (Row 3 1 (.slice fa fn fc) fn ((ofP b.2 t).map kI)) (star (Mp kI lb (pubV L)) emp)))))) (by ac_rfl))).1
                        have h9 := (h9.eq (B := star CX (star (Row 3 1 (.slice fa fn fc) fn ((ofP b.2 t).map kI)) (star (Row 40 3 (.slice oa on oc) on (outsV r.1)) (star (IsB p r.2) (star (Mp kI lb (pubV L)) (star AX emp)))))) (by ac_rfl)).right.right
                        have hong : decide ((1 : Int) < on) = false := decide_eq_false (by omega)
                        clear hl2 hor hs
                        cases hokb : ok with
                        | false =>
                          have hone := hokn hokb
                          have honb : ((on : Int) != 1) = false := by simp; omega
                          subst hokb
                          clear hpub hokn hone
                          go_wp2_with fail
                          go_loopw [14] (fun qv wz => ∃ q : Nat, q ≤ on ∧ qv = .int .i64 q ∧ St W wz (star (Row 40 3 (.slice oa on oc) on (outsV r.1)) (star (IsB p r.2) (star (Mp kI lb (pubV L)) (star AX emp))))) (fun qv _ => on - (intOf qv).toNat)
                          case atStart => exact ⟨0, Nat.zero_le _, rfl, h9⟩
                          case round =>
                            as_aux_lemma =>
                              obtain ⟨q, hq, rfl, hT⟩ := hrel
                              clear h9
                              by_cases hqn : q < on
                              · obtain ⟨o, ho⟩ : ∃ o, r.1[q]? = some o := ⟨_, List.getElem?_eq_getElem (by rw [HON.out]; exact hqn)⟩
                                obtain ⟨m, hm1, hm3, rfl⟩ := HO.out o (List.mem_of_getElem? ho)
                                obtain ⟨qb, qo, rfl, o1, o2, o3⟩ := elO hT.rowSl ho
                                have HF := Lib.hid (WdD.Faulted_any (errT m) (.tuple #[.int .i64 (m : Nat), .bool true]) (by rw [faulted_err (by omega)]; rfl) wr (HG.out.st hT) (HE.out.st hT) (Nat.le_trans (errT_len m (by omega)) (by omega)))
                                have d1 : decide (((m : Nat) : Int) < 1) = false := decide_eq_false (by omega)
                                have d2 : decide ((3 : Int) < ((m : Nat) : Int)) = false := decide_eq_false (by omega)
                                have hqI : (q : Int) < on := by omega
                                have HOQ := Lib.hid ho
                                clear ho hm1 hm3
                                go_wp2_with fail
                                refine HF.out.mono ?_
                                rintro e w10 hq10
                                have h10 := hT.makes hq10
                                obtain ⟨rfl, -⟩ := hq10
                                clear HF hT o1 o2 o3
                                obtain ⟨_, _, he, o1, o2, -⟩ := elO h10.rowSl HOQ.out
                                cases he
                                have c1 := (HX.out w10 _ (h10.eq (B := star AX (star (Row 40 3 (.slice (some ⟨qb, qo, none⟩) on oc) on (outsV r.1)) (star (IsB p r.2) (star (Mp kI lb (pubV L)) emp)))) (by ac_rfl))).2.1
                                go_wp2_with fail
                                go_big_quiet (fail)
                                go_wp2_with fail
                                exact ⟨⟨q + 1, hqn, by go_num, h10.drewN nq⟩, by simp [intOf]; omega⟩
                              · obtain rfl : on = q := by omega
                                go_wp2_with fail
                                have h11 := hT.right.eq (B := star AX (star (IsB p r.2) (star (Mp kI lb (pubV L)) emp))) (by ac_rfl)
                                exact ⟨⟨i + 1, r.2, L, hin, by go_num, HI2, HL2, h11.right⟩, by simp [intOf]; omega⟩
                        | true =>
                          have hk3 : (((k : Nat) : Int) != 3) = true := by
                            have : k ≠ 3 := fun hk => hpub ⟨hokb, hk⟩
                            simp; omega
                          subst hokb
                          clear hpub hokn
                          go_wp2_with fail
                          go_loopw [14] (fun qv wz => ∃ q : Nat, q ≤ on ∧ qv = .int .i64 q ∧ St W wz (star (Row 40 3 (.slice oa on oc) on (outsV r.1)) (star (IsB p r.2) (star (Mp kI lb (pubV L)) (star AX emp))))) (fun qv _ => on - (intOf qv).toNat)
                          case atStart => exact ⟨0, Nat.zero_le _, rfl, h9⟩
                          case round =>
                            as_aux_lemma =>
                              obtain ⟨q, hq, rfl, hT⟩ := hrel
                              clear h9
                              by_cases hqn : q < on
                              · obtain ⟨o, ho⟩ : ∃ o, r.1[q]? = some o := ⟨_, List.getElem?_eq_getElem (by rw [HON.out]; exact hqn)⟩
                                obtain ⟨m, hm1, hm3, rfl⟩ := HO.out o (List.mem_of_getElem? ho)
                                obtain ⟨qb, qo, rfl, o1, o2, o3⟩ := elO hT.rowSl ho
                                have HF := Lib.hid (WdD.Faulted_any (errT m) (.tuple #[.int .i64 (m : Nat), .bool true]) (by rw [faulted_err (by omega)]; rfl) wr (HG.out.st hT) (HE.out.st hT) (Nat.le_trans (errT_len m (by omega)) (by omega)))
                                have d1 : decide (((m : Nat) : Int) < 1) = false := decide_eq_false (by omega)
                                have d2 : decide ((3 : Int) < ((m : Nat) : Int)) = false := decide_eq_false (by omega)
                                have hqI : (q : Int) < on := by omega
                                have HOQ := Lib.hid ho
                                clear ho hm1 hm3
                                go_wp2_with fail
                                refine HF.out.mono ?_
                                rintro e w10 hq10
                                have h10 := hT.makes hq10
                                obtain ⟨rfl, -⟩ := hq10
                                clear HF hT o1 o2 o3
                                obtain ⟨_, _, he, o1, o2, -⟩ := elO h10.rowSl HOQ.out
                                cases he
                                have c1 := (HX.out w10 _ (h10.eq (B := star AX (star (Row 40 3 (.slice (some ⟨qb, qo, none⟩) on oc) on (outsV r.1)) (star (IsB p r.2) (star (Mp kI lb (pubV L)) emp)))) (by ac_rfl))).2.1
                                go_wp2_with fail
                                go_big_quiet (fail)
                                go_wp2_with fail
                                exact ⟨⟨q + 1, hqn, by go_num, h10.drewN nq⟩, by simp [intOf]; omega⟩
                              · obtain rfl : on = q := by omega
                                go_wp2_with fail
                                have h11 := hT.right.eq (B := star AX (star (IsB p r.2) (star (Mp kI lb (pubV L)) emp))) (by ac_rfl)
                                exact ⟨⟨i + 1, r.2, L, hin, by go_num, HI2, HL2, h11.right⟩, by simp [intOf]; omega⟩
          -- E
        · obtain rfl : i = len0 := by omega
          have HW := Lib.hid (wakes_any HG.out hS)
          go_wp2_with fail
          refine HW.out.mono ?_
          rintro e w4 ⟨rfl, h4⟩
          go_wp2
          go_ret
          exact ⟨rfl, h4.right.right⟩
end Go.Proofs.YtdobgebdlbckoaaGreatDoor.BkTl
