import Derived.Test.YtdobgebdlbckoaaGreatDoorBkLp
import Derived.Test.YtdobgebdlbckoaaGreatDoorBkG
import Derived.Test.YtdobgebdlbckoaaGreatDoorBkU
import Derived.Test.YtdobgebdlbckoaaGreatDoorBkS
namespace Go.Proofs.YtdobgebdlbckoaaGreatDoor.BkL
open Go Go.RowKit Go.Proofs Go.Proofs.YtdobgebdlbckoaaGreatDoor.Sep Go.Proofs.YtdobgebdlbckoaaGreatDoor.Reg Go.Proofs.YtdobgebdlbckoaaGreatDoor.Held Go.Proofs.YtdobgebdlbckoaaGreatDoor.Frame Go.Proofs.YtdobgebdlbckoaaGreatDoor.TpI Go.Proofs.YtdobgebdlbckoaaGreatDoor.TpK Go.Proofs.YtdobgebdlbckoaaGreatDoor.TpL Go.Proofs.YtdobgebdlbckoaaGreatDoor.Mp Go.Proofs.YtdobgebdlbckoaaGreatDoor.WdP Go.Proofs.YtdobgebdlbckoaaGreatDoor.WdN Go.Proofs.YtdobgebdlbckoaaGreatDoor.TpP Go.Proofs.YtdobgebdlbckoaaGreatDoor.TpA Go.Proofs.YtdobgebdlbckoaaGreatDoor.BkP Go.Proofs.YtdobgebdlbckoaaGreatDoor.BkA Go.Proofs.YtdobgebdlbckoaaGreatDoor.BkB Go.Proofs.YtdobgebdlbckoaaGreatDoor.BkC Go.Proofs.YtdobgebdlbckoaaGreatDoor.BkD Go.Proofs.YtdobgebdlbckoaaGreatDoor.BkW Go.Proofs.YtdobgebdlbckoaaGreatDoor.BkU Go.Proofs.YtdobgebdlbckoaaGreatDoor.BkLp Go.Proofs.YtdobgebdlbckoaaGreatDoor.BkG
theorem Inv.len {b : BS} {m : Nat} (h : Inv b m) (hm : m ≤ 1000000) : b.2.length ≤ 1000000 := Nat.le_trans h.ok.prs hm
theorem Inv.cnt {b : BS} {m : Nat} (h : Inv b m) (hm : m ≤ 1000000) : ∀ e ∈ b.1, e.2 ≤ 1000000 := fun e he => Nat.le_trans (h.ok.ids e he).2.2 hm
theorem elI_at {w : World} {b o n c : Nat} {l : List Int} (h : Sl w 1 (.slice (some ⟨b, o, none⟩) n c) n (l.map kI)) {i : Nat} {x : Int} (hx : l[i]? = some x) : w.cell? ⟨b, o + i, none⟩ = some (.int .i64 x) := by
  have hg : (l.map kI)[i]? = some (kI x) := by rw [List.getElem?_map, hx]; rfl
  obtain ⟨ab, ao, e, hc⟩ := sl_addr h (by have := (List.getElem?_eq_some_iff.1 hg).1; omega)
  cases e
  simpa using hc i _ hg
theorem isM_keys (b : BS) (id : Int) : decide (id ∈ sortI (b.1.map (·.1))) = isM b id := by
  have h1 : id ∈ sortI (b.1.map (·.1)) ↔ id ∈ b.1.map (·.1) := (List.mergeSort_perm _ _).mem_iff
  unfold isM
  cases hg : getM id b.1 with
  | none =>
    have := getM_none.1 hg
    simp only [Option.isSome_none, decide_eq_false_iff_not, h1]
    exact this
  | some v =>
    simp only [Option.isSome_some, decide_eq_true_eq, h1]
    exact List.mem_map.2 ⟨_, getM_mem hg, rfl⟩
def CK (b o : Nat) (y : Int) (w : World) : Prop := w.cell? ⟨b, o, none⟩ = some (.int .i64 y)
def CL (b o ob : Nat) (y : Int) (v : Value) (w : World) : Prop := w.cell? ⟨b, o, none⟩ = some (.int .i64 y) ∧ (Instr.lookup 35 (.map (some ob)) (.int .i64 y) false).run Tryz.prog w = .ok v w
theorem lookO {W w : World} {ob : Nat} {es : List (Int × Value)} {R : Asn} (h : St W w (star (Mp kI ob es) R)) (k : Int) : (Instr.lookup 35 (.map (some ob)) (.int .i64 k) false).run Tryz.prog w = .ok ((getM k es).getD (.slice none 0 0)) w :=
  run_lookup (P := Tryz.prog) (t := 35) TpI.cI Tryz.underlying35 Tryz.underlying3 (Tryz.zeroValue36 w) h k false
theorem cat_pub (t : Tx) : (⟨#[80, 85, 66, 32]⟩ : ByteArray) ++ ⟨t.toArray⟩ = ⟨(wPUB ++ 32 :: t).toArray⟩ := by
  apply ByteArray.ext
  rw [ByteArray.data_append]
  simp [wPUB]
theorem elS_at {w : World} {b o n c : Nat} {l : List Tx} (h : Sl w 1 (.slice (some ⟨b, o, none⟩) n c) n (l.map kS)) {i : Nat} {x : Tx} (hx : l[i]? = some x) : w.cell? ⟨b, o + i, none⟩ = some (kS x) := by
  have hg : (l.map kS)[i]? = some (kS x) := by rw [List.getElem?_map, hx]; rfl
  obtain ⟨ab, ao, e, hc⟩ := sl_addr h (by have := (List.getElem?_eq_some_iff.1 hg).1; omega)
  cases e
  simpa using hc i _ hg
def trL : Tr := .plain 0 (.plain 1 (.plain 2 (.plain 3 (.held 4 (.plain 6 (.plain 7 (.plain 8 (.plain 9 (.held 10 (.held 11 (.one 5 (.one 12 (.plain 13 .done)))))))))))))
def trM : Tr := .plain 0 (.plain 1 (.plain 2 (.plain 3 (.held 4 (.plain 5 (.plain 6 (.plain 7 (.plain 8 (.held 9 (.held 10 (.plain 11 (.plain 12 (.held 13 (.plain 14 (.plain 15 (.one 16 (.plain 17 .done)))))))))))))))))
def trK : Tr := .plain 0 (.plain 1 (.plain 2 (.plain 3 (.held 4 (.plain 5 (.plain 6 (.plain 7 (.plain 8 (.held 9 (.one 10 (.one 11 .done)))))))))))
set_option maxRecDepth 100000 in
set_option maxHeartbeats 32000000 in
theorem left_any {W : World} (hG : Gl W) (a0 : Option Addr) (len0 cap0 : Nat) (xs : List BkG.Act) (hlen : xs.length = len0) (hsl : Sl W 4 (.slice a0 len0 cap0) len0 (xs.flatMap ActC.E)) (_ : ∀ x ∈ xs, ActC.Ok x) (id : Int) (_ : (Lit.int .i64 id).wf = true) :
    Calls Tryz.prog 3 #[.slice a0 len0 cap0, .int .i64 id] W (Law W emp) := by
  have HSL := Lib.hid hsl
  have HLEN := Lib.hid hlen
  have HG := Lib.hid hG
  have HGr := Lib.hid (Great_any a0 len0 cap0 xs hlen W hsl)
  clear hsl hlen hG
  go_enter Tryz.func3, Tryz.ntmps3
  go_wp2_with fail
  refine HGr.out.mono ?_
  rintro e w1 ⟨gb, hq, hgb⟩
  have h1 := (St.start W).makes hq
  obtain ⟨rfl, -⟩ := hq
  clear HGr
  cases gb with
  | true =>
    have HW := Lib.hid (wakes_any HG.out h1)
    go_wp2_with fail
    refine HW.out.mono ?_
    rintro e w2 ⟨rfl, h2⟩
    go_wp2
    go_ret
    exact ⟨rfl, h2⟩
  | false =>
    obtain ⟨hl150, hl100⟩ := hgb rfl
    have HL := Lib.hid hl100
    clear hgb hl100
    by_cases hb : len0 ≤ 120
    · have g1 : ¬ (120 : Int) < len0 := by omega
      have HN := Lib.hid (BkA.New_any h1)
      go_wp2_with fail
      refine HN.out.mono ?_
      rintro e w2 ⟨p, rfl, h2⟩
      clear HN h1
      go_wp2_with fail
      go_loopw [6] (fun iv wr => ∃ (i : Nat) (b : BS), i ≤ len0 ∧ iv = .int .i64 i ∧ Hid (Inv b i) ∧ St W wr (star (IsB p b) emp)) (fun iv _ => len0 - (intOf iv).toNat)
      case atStart => exact ⟨0, ([], []), Nat.zero_le _, rfl, Lib.hid Inv.nil, h2⟩
      case round =>
        obtain ⟨i, b, hi, rfl, HI, hS⟩ := hrel
        clear h2
        by_cases hin : i < len0
        · obtain ⟨x, hx⟩ : ∃ x, xs[i]? = some x := ⟨_, List.getElem?_eq_getElem (by rw [HLEN.out]; exact hin)⟩
          obtain ⟨ab, ao, rfl, hel⟩ := act_at_all HSL.out hx
          have e0 := hel _ _ hS 0 _ rfl
          rw [Nat.add_zero] at e0
          have e1 := hel _ _ hS 1 _ rfl
          have e2 := hel _ _ hS 2 _ rfl
          have e3 := hel _ _ hS 3 _ rfl
          have f1 := hel _ _ hS.drew 1 _ rfl
          have f2 := hel _ _ hS.drew 2 _ rfl
          have f3 := hel _ _ hS.drew 3 _ rfl
          have hinI : (i : Int) < len0 := by omega
          have hxl := HL.out x (List.mem_of_getElem? hx)
          clear hel hx
          have HJ := Lib.hid (Join_any p b hS x.k)
          have HLv := Lib.hid (Leave_any p b hS (Inv.len HI.out (by omega)) x.k)
          have HD := Lib.hid (Do_any p b hS.drew (Inv.len HI.out (by omega)) (Inv.cnt HI.out (by omega)) HG.out x.k x.o x.t (by omega))
          by_cases d0 : x.d = 0
          · rw [d0] at e0
            clear d0
            go_wp2_with fail
            refine HJ.out.mono ?_
            rintro e w3 ⟨rfl, h3⟩
            go_wp2_with fail
            exact ⟨⟨i + 1, _, hin, by go_num, Lib.hid (HI.out.join x.k), h3⟩, by simp [intOf]; omega⟩
          · by_cases d1 : x.d = 1
            · rw [d1] at e0
              clear d0 d1
              go_wp2_with fail
              refine HLv.out.mono ?_
              rintro e w3 ⟨rfl, h3⟩
              go_wp2_with fail
              exact ⟨⟨i + 1, _, hin, by go_num, Lib.hid (HI.out.leave x.k), h3⟩, by simp [intOf]; omega⟩
            · have d0b : (x.d == 0) = false := by simpa using d0
              have d1b : (x.d == 1) = false := by simpa using d1
              clear d0 d1 HJ HLv
              go_wp2_with fail
              refine wp_region_canon [0, 1, 2, 3, 4, 5, 6, 7, 8, 9, 10, 11, 12, 13, 14, 15, 16] (by kernel_rfl) (by kernel_rfl) ?_
              simp only [pickOps, nthOp]
              go_wp2_with fail
              refine HD.out.mono ?_
              rintro e w3 ⟨a3, n3, c3, rfl, hn3, h3⟩
              go_wp2_with fail
              simp only [Only]
              go_wp2_with fail
              exact ⟨⟨i + 1, _, hin, by go_num, Lib.hid (HI.out.do_ x.k x.o x.t), h3.right⟩, by simp [intOf]; omega⟩
        · obtain rfl : i = len0 := by omega
          have HM := Lib.hid (Members_any p b hS (Nat.le_trans HI.out.ok.few (by omega)))
          clear hS
          go_wp2_with fail
          refine HM.out.mono ?_
          rintro e w3 ⟨ma, mc, rfl, h3⟩
          have hmm := @run_makeMap Tryz.prog
          have h4 := Go.Proofs.YtdobgebdlbckoaaGreatDoor.Ms.St.newMs kI kS 9 h3
          clear HM h3
          obtain ⟨M, hM⟩ : ∃ M, sortI (b.1.map (·.1)) = M := ⟨_, rfl⟩
          have HMN : Hid (M.length = b.1.length) := Lib.hid (by rw [← hM, sortI_len]; simp)
          rw [hM] at h4
          have HM := Lib.hid hM
          clear hM
          obtain ⟨n, hn⟩ : ∃ n, b.1.length = n := ⟨_, rfl⟩
          rw [hn] at h4 HMN ⊢
          have hn2 : n ≤ 120 := by have := HI.out.ok.few; omega
          obtain ⟨ob, hob⟩ : ∃ ob, w3.heap.size = ob := ⟨_, rfl⟩
          rw [hob] at h4
          clear hn
          go_wp2_with fail
          clear hob
          generalize w3.alloc (.map #[] 0) = w4 at *
          go_loopw [9, 10] (fun sv jv wr => ∃ j : Nat, j ≤ n ∧ jv = .int .i64 j ∧ sv = .bool (decide (id ∈ M.take j)) ∧ St W wr (star (Go.Proofs.YtdobgebdlbckoaaGreatDoor.Ms.MS kI kS 9 ob (oth b id (M.take j))) (star (IsB p b) (star (Row 3 1 (.slice ma n mc) n (M.map kI)) emp)))) (fun _ jv _ => n - (intOf jv).toNat)
          case atStart => exact ⟨0, Nat.zero_le _, rfl, by simp, h4.eq (by show star _ (star _ (star _ _)) = star _ (star _ (star _ _)); rw [show oth b id (M.take 0) = [] from rfl]; ac_rfl)⟩
          case round =>
            obtain ⟨j, hj, rfl, rfl, hT⟩ := hrel
            clear h4
            by_cases hjn : j < n
            · obtain ⟨y, hy⟩ : ∃ y, M[j]? = some y := ⟨_, List.getElem?_eq_getElem (by rw [HMN.out]; exact hjn)⟩
              obtain ⟨zb, zq, rfl, -⟩ := elI hT.right.right.rowSl hy
              have c1 := elI_at hT.right.right.rowSl hy
              have c2 := elI_at hT.drew.right.right.rowSl hy
              have hjnI : (j : Int) < n := by omega
              have HMS : Hid (decide (id ∈ M.take (j + 1)) = (decide (id ∈ M.take j) || (y == id))) := Lib.hid (by
                rw [List.take_add_one, hy]
                by_cases h1 : id ∈ M.take j
                · simp [h1]
                · by_cases h2 : y = id
                  · simp [h2]
                  · simp [h1, h2, Ne.symm h2])
              have HTS : Hid (oth b id (M.take (j + 1)) = if y = id then oth b id (M.take j) else putM y (byP b.2 y) (oth b id (M.take j))) := Lib.hid (by rw [List.take_add_one, hy]; exact oth_snoc b id _ y)
              have HY := Lib.hid hy
              clear hy
              by_cases hyi : y = id
              · subst hyi
                rw [if_pos rfl] at HTS
                have hyy : (y == y) = true := by simp
                have hyn : (y != y) = false := by simp
                rw [hyy, Bool.or_true] at HMS
                cases hth : decide (y ∈ M.take j)
                · go_wp2_with fail
                  exact ⟨⟨j + 1, hjn, by go_num, by rw [HMS.out], hT.eq (by rw [HTS.out])⟩, by simp [intOf]; omega⟩
                · go_wp2_with fail
                  exact ⟨⟨j + 1, hjn, by go_num, by rw [HMS.out], hT.eq (by rw [HTS.out])⟩, by simp [intOf]; omega⟩
              · rw [if_neg hyi] at HTS
                have hye : (y == id) = false := by simpa using hyi
                have hyn : (y != id) = true := by simpa using hyi
                rw [hye, Bool.or_false] at HMS
                have HH := Lib.hid (Hears_any p b (hT.drew.eq (B := star (IsB p b) (star (Go.Proofs.YtdobgebdlbckoaaGreatDoor.Ms.MS kI kS 9 ob (oth b id (M.take j))) (star (Row 3 1 (.slice (some ⟨zb, zq, none⟩) n mc) n (M.map kI)) emp))) (by ac_rfl)) (Inv.len HI.out (by omega)) y)
                clear hyi
                cases hth : decide (id ∈ M.take j)
                · rw [hth] at HMS
                  go_wp2_with fail
                  refine Go.Proofs.YtdobgebdlbckoaaGreatDoor.Held.wp_region_held (CK zb (zq + j) y) [] trK (by kernel_rfl) (by kernel_rfl) c2 ?_
                  unfold trK
                  refine tr_plain (.map (some ob)) rfl ?_ (by simp only [nthOp, Act.put, List.setIfInBounds_toArray, List.set_cons_succ, List.set_cons_zero]; rfl) ?_
                  · exact fun _ => rfl
                  refine tr_plain (.slice (some ⟨zb, zq, none⟩) n mc) rfl ?_ (by simp only [nthOp, Act.put, List.setIfInBounds_toArray, List.set_cons_succ, List.set_cons_zero]; rfl) ?_
                  · exact fun _ => rfl
                  refine tr_plain (.int .i64 j) rfl ?_ (by simp only [nthOp, Act.put, List.setIfInBounds_toArray, List.set_cons_succ, List.set_cons_zero]; rfl) ?_
                  · exact fun _ => rfl
                  refine tr_plain (.pointer (some ⟨zb, zq + j, none⟩)) rfl ?_ (by simp only [nthOp, Act.put, List.setIfInBounds_toArray, List.set_cons_succ, List.set_cons_zero]; rfl) ?_
                  · (intro w'; simp only [nthOp]; go_simp)
                  refine tr_held (.int .i64 y) rfl ?_ (by simp only [nthOp, Act.put, List.setIfInBounds_toArray, List.set_cons_succ, List.set_cons_zero]; rfl) ?_
                  · (rintro w' hc1; unfold CK at hc1; simp only [nthOp]; go_simp)
                  refine tr_plain (.pointer (some ⟨p, 0, none⟩)) rfl ?_ (by simp only [nthOp, Act.put, List.setIfInBounds_toArray, List.set_cons_succ, List.set_cons_zero]; rfl) ?_
                  · exact fun _ => rfl
                  refine tr_plain (.slice (some ⟨zb, zq, none⟩) n mc) rfl ?_ (by simp only [nthOp, Act.put, List.setIfInBounds_toArray, List.set_cons_succ, List.set_cons_zero]; rfl) ?_
                  · exact fun _ => rfl
                  refine tr_plain (.int .i64 j) rfl ?_ (by simp only [nthOp, Act.put, List.setIfInBounds_toArray, List.set_cons_succ, List.set_cons_zero]; rfl) ?_
                  · exact fun _ => rfl
                  refine tr_plain (.pointer (some ⟨zb, zq + j, none⟩)) rfl ?_ (by simp only [nthOp, Act.put, List.setIfInBounds_toArray, List.set_cons_succ, List.set_cons_zero]; rfl) ?_
                  · (intro w'; simp only [nthOp]; go_simp)
                  refine tr_held (.int .i64 y) rfl ?_ (by simp only [nthOp, Act.put, List.setIfInBounds_toArray, List.set_cons_succ, List.set_cons_zero]; rfl) ?_
                  · (rintro w' hc1; unfold CK at hc1; simp only [nthOp]; go_simp)
                  refine tr_one ?_
                  simp only [nthOp]
                  go_wp2_with fail
                  refine HH.out.mono ?_
                  rintro e w5 ⟨a5, n5, c5, rfl, hn5, h5⟩
                  have hC5 : CK zb (zq + j) y w5 := elI_at h5.right.right.right.rowSl HY.out
                  obtain ⟨es, he1, he2, h6⟩ := Go.Proofs.YtdobgebdlbckoaaGreatDoor.Ms.St.msTake (h5.eq (B := star (Go.Proofs.YtdobgebdlbckoaaGreatDoor.Ms.MS kI kS 9 ob (oth b id (M.take j))) (star (Row 9 1 (.slice a5 n5 c5) n5 ((byP b.2 y).map kS)) (star (IsB p b) (star (Row 3 1 (.slice (some ⟨zb, zq, none⟩) n mc) n (M.map kI)) emp)))) (by ac_rfl)) y
                  have h7 := (h6.eq (star_left_comm _ _ _)).right
                  have HE1 := Lib.hid he1
                  have HE2 := Lib.hid he2
                  have HN5 := Lib.hid hn5
                  clear HH h5 h6 he1 he2 hn5 hT
                  go_wp2_with fail
                  simp only [Reg.Next]
                  refine ⟨fun _ => hC5, tr_one ?_⟩
                  simp only [nthOp]
                  go_wp2_with (at_mapUpdate; refine wpList_mapUpdate TpI.cI rfl (.tmp 95) (.tmp 99) (.tmp 105) rfl Tryz.underlying35 Tryz.underlying3 rfl h7 y (.slice a5 n5 c5) rfl rfl ?_; intro w6 h8)
                  have h9 := Go.Proofs.YtdobgebdlbckoaaGreatDoor.Ms.St.msPut (enc := kI) (encV := kS) (e := 9) (b := ob) (k := y) (xs := byP b.2 y) (v := .slice a5 n5 c5) HE1.out HE2.out (R := star (IsB p b) (star (Row 3 1 (.slice (some ⟨zb, zq, none⟩) n mc) n (M.map kI)) emp)) (h8.eq (by rw [HN5.out]; ac_rfl))
                  simp only [Reg.Next]
                  refine ⟨elI_at h9.right.right.rowSl HY.out, tr_done ?_⟩
                  go_wp2_with fail
                  exact ⟨⟨j + 1, hjn, by go_num, by rw [HMS.out], h9.eq (by rw [HTS.out])⟩, by simp [intOf]; omega⟩
                · rw [hth] at HMS
                  go_wp2_with fail
                  refine Go.Proofs.YtdobgebdlbckoaaGreatDoor.Held.wp_region_held (CK zb (zq + j) y) [] trK (by kernel_rfl) (by kernel_rfl) c2 ?_
                  unfold trK
                  refine tr_plain (.map (some ob)) rfl ?_ (by simp only [nthOp, Act.put, List.setIfInBounds_toArray, List.set_cons_succ, List.set_cons_zero]; rfl) ?_
                  · exact fun _ => rfl
                  refine tr_plain (.slice (some ⟨zb, zq, none⟩) n mc) rfl ?_ (by simp only [nthOp, Act.put, List.setIfInBounds_toArray, List.set_cons_succ, List.set_cons_zero]; rfl) ?_
                  · exact fun _ => rfl
                  refine tr_plain (.int .i64 j) rfl ?_ (by simp only [nthOp, Act.put, List.setIfInBounds_toArray, List.set_cons_succ, List.set_cons_zero]; rfl) ?_
                  · exact fun _ => rfl
                  refine tr_plain (.pointer (some ⟨zb, zq + j, none⟩)) rfl ?_ (by simp only [nthOp, Act.put, List.setIfInBounds_toArray, List.set_cons_succ, List.set_cons_zero]; rfl) ?_
                  · (intro w'; simp only [nthOp]; go_simp)
                  refine tr_held (.int .i64 y) rfl ?_ (by simp only [nthOp, Act.put, List.setIfInBounds_toArray, List.set_cons_succ, List.set_cons_zero]; rfl) ?_
                  · (rintro w' hc1; unfold CK at hc1; simp only [nthOp]; go_simp)
                  refine tr_plain (.pointer (some ⟨p, 0, none⟩)) rfl ?_ (by simp only [nthOp, Act.put, List.setIfInBounds_toArray, List.set_cons_succ, List.set_cons_zero]; rfl) ?_
                  · exact fun _ => rfl
                  refine tr_plain (.slice (some ⟨zb, zq, none⟩) n mc) rfl ?_ (by simp only [nthOp, Act.put, List.setIfInBounds_toArray, List.set_cons_succ, List.set_cons_zero]; rfl) ?_
                  · exact fun _ => rfl
                  refine tr_plain (.int .i64 j) rfl ?_ (by simp only [nthOp, Act.put, List.setIfInBounds_toArray, List.set_cons_succ, List.set_cons_zero]; rfl) ?_
                  · exact fun _ => rfl
                  refine tr_plain (.pointer (some ⟨zb, zq + j, none⟩)) rfl ?_ (by simp only [nthOp, Act.put, List.setIfInBounds_toArray, List.set_cons_succ, List.set_cons_zero]; rfl) ?_
                  · (intro w'; simp only [nthOp]; go_simp)
                  refine tr_held (.int .i64 y) rfl ?_ (by simp only [nthOp, Act.put, List.setIfInBounds_toArray, List.set_cons_succ, List.set_cons_zero]; rfl) ?_
                  · (rintro w' hc1; unfold CK at hc1; simp only [nthOp]; go_simp)
                  refine tr_one ?_
                  simp only [nthOp]
                  go_wp2_with fail
                  refine HH.out.mono ?_
                  rintro e w5 ⟨a5, n5, c5, rfl, hn5, h5⟩
                  have hC5 : CK zb (zq + j) y w5 := elI_at h5.right.right.right.rowSl HY.out
                  obtain ⟨es, he1, he2, h6⟩ := Go.Proofs.YtdobgebdlbckoaaGreatDoor.Ms.St.msTake (h5.eq (B := star (Go.Proofs.YtdobgebdlbckoaaGreatDoor.Ms.MS kI kS 9 ob (oth b id (M.take j))) (star (Row 9 1 (.slice a5 n5 c5) n5 ((byP b.2 y).map kS)) (star (IsB p b) (star (Row 3 1 (.slice (some ⟨zb, zq, none⟩) n mc) n (M.map kI)) emp)))) (by ac_rfl)) y
                  have h7 := (h6.eq (star_left_comm _ _ _)).right
                  have HE1 := Lib.hid he1
                  have HE2 := Lib.hid he2
                  have HN5 := Lib.hid hn5
                  clear HH h5 h6 he1 he2 hn5 hT
                  go_wp2_with fail
                  simp only [Reg.Next]
                  refine ⟨fun _ => hC5, tr_one ?_⟩
                  simp only [nthOp]
                  go_wp2_with (at_mapUpdate; refine wpList_mapUpdate TpI.cI rfl (.tmp 95) (.tmp 99) (.tmp 105) rfl Tryz.underlying35 Tryz.underlying3 rfl h7 y (.slice a5 n5 c5) rfl rfl ?_; intro w6 h8)
                  have h9 := Go.Proofs.YtdobgebdlbckoaaGreatDoor.Ms.St.msPut (enc := kI) (encV := kS) (e := 9) (b := ob) (k := y) (xs := byP b.2 y) (v := .slice a5 n5 c5) HE1.out HE2.out (R := star (IsB p b) (star (Row 3 1 (.slice (some ⟨zb, zq, none⟩) n mc) n (M.map kI)) emp)) (h8.eq (by rw [HN5.out]; ac_rfl))
                  simp only [Reg.Next]
                  refine ⟨elI_at h9.right.right.rowSl HY.out, tr_done ?_⟩
                  go_wp2_with fail
                  exact ⟨⟨j + 1, hjn, by go_num, by rw [HMS.out], h9.eq (by rw [HTS.out])⟩, by simp [intOf]; omega⟩
            · obtain rfl : n = j := by omega
              have hmi : decide (id ∈ M.take n) = isM b id := by
                rw [List.take_of_length_le (by rw [HMN.out]; exact Nat.le_refl _), ← HM.out]
                exact isM_keys b id
              rw [hmi]
              rw [List.take_of_length_le (by rw [HMN.out]; exact Nat.le_refl _)] at hT
              clear hmi
              have HLv := Lib.hid (Leave_any p b (hT.eq (B := star (IsB p b) (star (Go.Proofs.YtdobgebdlbckoaaGreatDoor.Ms.MS kI kS 9 ob (oth b id M)) (star (Row 3 1 (.slice ma n mc) n (M.map kI)) emp))) (by ac_rfl)) (Inv.len HI.out (by omega)) id)
              obtain ⟨hg1, hg2, hg3, hg4, hg5⟩ := gone HI.out id
              obtain ⟨b2, hb2⟩ : ∃ b2, (leaveB b id).2 = b2 := ⟨_, rfl⟩
              have HI2 := HI.out.leave id
              unfold JPst at HLv
              rw [hb2] at hg1 hg2 hg3 hg4 HI2 HLv
              rw [hg5] at HLv
              clear hb2 hg5 hT
              have HG1 := Lib.hid hg1
              have HG2 := Lib.hid hg2
              have HG3 := Lib.hid hg3
              have HG4 := Lib.hid hg4
              have HI3 := Lib.hid HI2
              clear hg1 hg2 hg3 hg4 HI2
              obtain ⟨rv, hrv⟩ : ∃ rv, (if isM b id = true then (0 : Int) else 4) = rv := ⟨_, rfl⟩
              obtain ⟨ib, hib⟩ : ∃ ib, isM b id = ib := ⟨_, rfl⟩
              have hrb : (rv == 0) = ib := by rw [← hrv, ← hib]; cases isM b id <;> rfl
              have hbb : (ib != ib) = false := by cases ib <;> rfl
              rw [hrv] at HLv
              rw [hib]
              clear hrv hib
              go_wp2_with fail
              refine HLv.out.mono ?_
              rintro e w5 ⟨rfl, h5⟩
              clear HLv
              go_wp2_with fail
              go_loopw [11] (fun jv wr => ∃ (j : Nat) (bc : BS), j ≤ n ∧ jv = .int .i64 j ∧ Hid (Inv bc (121 + j * 121)) ∧ Hid (bc.2 = b2.2) ∧ Hid (∀ k, isM bc k = isM b2 k) ∧ St W wr (star (IsB p bc) (star (Go.Proofs.YtdobgebdlbckoaaGreatDoor.Ms.MS kI kS 9 ob (oth b id M)) (star (Row 3 1 (.slice ma n mc) n (M.map kI)) emp)))) (fun jv _ => n - (intOf jv).toNat)
              case atStart => exact ⟨0, b2, Nat.zero_le _, rfl, Lib.hid (HI3.out.mono (by omega)), Lib.hid rfl, Lib.hid (fun _ => rfl), h5⟩
              case round =>
                obtain ⟨j, bc, hj, rfl, HJ, HB2, HM2, hT⟩ := hrel
                clear h5 hrb hbb
                by_cases hjn : j < n
                · obtain ⟨y, hy⟩ : ∃ y, M[j]? = some y := ⟨_, List.getElem?_eq_getElem (by rw [HMN.out]; exact hjn)⟩
                  obtain ⟨zb, zq, rfl, -⟩ := elI hT.right.right.rowSl hy
                  have c1 := elI_at hT.right.right.rowSl hy
                  have hjnI : (j : Int) < n := by omega
                  have HY := Lib.hid hy
                  clear hy
                  by_cases hyi : y = id
                  · subst hyi
                    have hyy : (y == y) = true := by simp
                    go_wp2_with fail
                    exact ⟨⟨j + 1, bc, hjn, by go_num, Lib.hid (HJ.out.mono (by omega)), HB2, HM2, hT⟩, by simp [intOf]; omega⟩
                  · have hye : (y == id) = false := by simpa using hyi
                    -- B28
                    go_wp2_with fail
                    have hyM : y ∈ M := List.mem_of_getElem? HY.out
                    have hgy : getM y (oth b id M) = some (byP b.2 y) := oth_get b id hyM hyi
                    have hym : isM b y = true := by
                      rw [← isM_keys b y, HM.out]
                      exact decide_eq_true hyM
                    have HBY : Hid (∀ bd : BS, bd.2 = b2.2 → byP bd.2 y = byP b.2 y) := Lib.hid fun bd h => by rw [h]; exact (HG3.out y hyi).1
                    have HMY : Hid (isM b2 y = true) := Lib.hid (by rw [(HG3.out y hyi).2]; exact hym)
                    obtain ⟨es, he1, he2, h6⟩ := Go.Proofs.YtdobgebdlbckoaaGreatDoor.Ms.St.msTake (hT.eq (B := star (Go.Proofs.YtdobgebdlbckoaaGreatDoor.Ms.MS kI kS 9 ob (oth b id M)) (star (IsB p bc) (star (Row 3 1 (.slice (some ⟨zb, zq, none⟩) n mc) n (M.map kI)) emp))) (by ac_rfl)) y
                    rw [hgy, Option.getD_some] at h6
                    obtain ⟨v5, hv5⟩ : ∃ v, (getM y es).getD (.slice none 0 0) = v := ⟨_, rfl⟩
                    obtain ⟨n5, hn5⟩ : ∃ n5, (byP b.2 y).length = n5 := ⟨_, rfl⟩
                    have h6 : St W wr (star (Mp kI ob es) (star (Row 9 1 ((getM y es).getD (.slice none 0 0)) n5 ((byP b.2 y).map kS)) (star (Go.Proofs.YtdobgebdlbckoaaGreatDoor.Ms.RowsOf 9 kS ((delM y es).map (·.2)) ((delM y (oth b id M)).map (·.2))) (star (IsB p bc) (star (Row 3 1 (.slice (some ⟨zb, zq, none⟩) n mc) n (M.map kI)) emp))))) := hn5 ▸ h6
                    rw [hv5] at h6
                    obtain ⟨_, a5, c5, hva, _⟩ := _root_.id h6.right.rowSl
                    obtain rfl : v5 = .slice a5 n5 c5 := hva
                    obtain ⟨TK, hTK⟩ : ∃ A : Asn, star (Mp kI ob es) (star (Row 9 1 (.slice a5 n5 c5) n5 ((byP b.2 y).map kS)) (star (Go.Proofs.YtdobgebdlbckoaaGreatDoor.Ms.RowsOf 9 kS ((delM y es).map (·.2)) ((delM y (oth b id M)).map (·.2))) (star (Row 3 1 (.slice (some ⟨zb, zq, none⟩) n mc) n (M.map kI)) emp))) = A := ⟨_, rfl⟩
                    have hTT : St W wr (star (IsB p bc) TK) := by rw [← hTK]; exact h6.eq (by ac_rfl)
                    have HBK : Hid (∀ w' bb, St W w' (star (IsB p bb) TK) → St W w' (star (IsB p bb) (star (Go.Proofs.YtdobgebdlbckoaaGreatDoor.Ms.MS kI kS 9 ob (oth b id M)) (star (Row 3 1 (.slice (some ⟨zb, zq, none⟩) n mc) n (M.map kI)) emp)))) := Lib.hid fun w' bb h => by
                      rw [← hTK] at h
                      refine St.eq (Go.Proofs.YtdobgebdlbckoaaGreatDoor.Ms.St.msBack (enc := kI) (encV := kS) (e := 9) (b := ob) (k := y) (R := star (IsB p bb) (star (Row 3 1 (.slice (some ⟨zb, zq, none⟩) n mc) n (M.map kI)) emp)) he1 he2 ?_) (by ac_rfl)
                      rw [hgy, Option.getD_some, hn5, hv5]
                      exact h.eq (by ac_rfl)
                    have HCL : Hid (∀ w' A, St W w' (star A TK) → CL zb (zq + j) ob y (.slice a5 n5 c5) w') := Lib.hid fun w' A h => by
                      rw [← hTK] at h
                      have h1 := lookO h.right y
                      rw [hv5] at h1
                      exact ⟨elI_at h.right.right.right.right.rowSl HY.out, h1⟩
                    have HTS : Hid (∀ w' A, St W w' (star A TK) → Sl w' 1 (.slice a5 n5 c5) n5 ((byP b.2 y).map kS)) := Lib.hid fun w' A h => by
                      rw [← hTK] at h
                      exact h.right.right.rowSl
                    have HN5 := Lib.hid hn5
                    have hn5b : n5 ≤ 120 := by have h1 := byP_le b.2 y; have h2 := HI.out.ok.prs; omega
                    have HH := Lib.hid (Hears_any p bc hTT.drew (Inv.len HJ.out (by have := Nat.mul_le_mul_right 121 (Nat.le_of_lt hjn); omega)) y)
                    have hj2 : j * 121 ≤ 120 * 121 := Nat.mul_le_mul_right _ (by omega)
                    clear hgy hyM hym he1 he2 h6 hv5 hn5 hTK hT c1
                    have hc0 := HCL.out _ _ hTT.drew
                    refine Go.Proofs.YtdobgebdlbckoaaGreatDoor.Held.wp_region_held (CL zb (zq + j) ob y (.slice a5 n5 c5)) [] trL (by kernel_rfl) (by kernel_rfl) hc0 ?_
                    clear hc0
                    unfold trL
                    refine tr_plain (.pointer (some ⟨p, 0, none⟩)) rfl ?_ (by simp only [nthOp, Act.put, List.setIfInBounds_toArray, List.set_cons_succ, List.set_cons_zero]; rfl) ?_
                    · exact fun _ => rfl
                    refine tr_plain (.slice (some ⟨zb, zq, none⟩) n mc) rfl ?_ (by simp only [nthOp, Act.put, List.setIfInBounds_toArray, List.set_cons_succ, List.set_cons_zero]; rfl) ?_
                    · exact fun _ => rfl
                    refine tr_plain (.int .i64 j) rfl ?_ (by simp only [nthOp, Act.put, List.setIfInBounds_toArray, List.set_cons_succ, List.set_cons_zero]; rfl) ?_
                    · exact fun _ => rfl
                    refine tr_plain (.pointer (some ⟨zb, zq + j, none⟩)) rfl ?_ (by simp only [nthOp, Act.put, List.setIfInBounds_toArray, List.set_cons_succ, List.set_cons_zero]; rfl) ?_
                    · (intro w'; simp only [nthOp]; go_simp)
                    refine tr_held (.int .i64 y) rfl ?_ (by simp only [nthOp, Act.put, List.setIfInBounds_toArray, List.set_cons_succ, List.set_cons_zero]; rfl) ?_
                    · (rintro w' ⟨hc1, -⟩; simp only [nthOp]; go_simp)
                    refine tr_plain (.map (some ob)) rfl ?_ (by simp only [nthOp, Act.put, List.setIfInBounds_toArray, List.set_cons_succ, List.set_cons_zero]; rfl) ?_
                    · exact fun _ => rfl
                    refine tr_plain (.slice (some ⟨zb, zq, none⟩) n mc) rfl ?_ (by simp only [nthOp, Act.put, List.setIfInBounds_toArray, List.set_cons_succ, List.set_cons_zero]; rfl) ?_
                    · exact fun _ => rfl
                    refine tr_plain (.int .i64 j) rfl ?_ (by simp only [nthOp, Act.put, List.setIfInBounds_toArray, List.set_cons_succ, List.set_cons_zero]; rfl) ?_
                    · exact fun _ => rfl
                    refine tr_plain (.pointer (some ⟨zb, zq + j, none⟩)) rfl ?_ (by simp only [nthOp, Act.put, List.setIfInBounds_toArray, List.set_cons_succ, List.set_cons_zero]; rfl) ?_
                    · (intro w'; simp only [nthOp]; go_simp)
                    refine tr_held (.int .i64 y) rfl ?_ (by simp only [nthOp, Act.put, List.setIfInBounds_toArray, List.set_cons_succ, List.set_cons_zero]; rfl) ?_
                    · (rintro w' ⟨hc1, -⟩; simp only [nthOp]; go_simp)
                    refine tr_held (.slice a5 n5 c5) rfl ?_ (by simp only [nthOp, Act.put, List.setIfInBounds_toArray, List.set_cons_succ, List.set_cons_zero]; rfl) ?_
                    · exact fun w' hc => exec_lookup rfl rfl rfl hc.2
                    refine tr_one ?_
                    simp only [nthOp]
                    go_wp2_with fail
                    refine HH.out.mono ?_
                    rintro e w5 ⟨a6, n6, c6, rfl, hn6, h5⟩
                    rw [HBY.out bc HB2.out] at hn6 h5
                    obtain rfl : n5 = n6 := HN5.out.symm.trans hn6
                    have hC5 := HCL.out w5 (star (Row 9 1 (.slice a6 n5 c6) n5 ((byP b.2 y).map kS)) (IsB p bc)) (h5.eq (star_assoc _ _ _).symm)
                    have HSm := Lib.hid ((BkS.sameS_any (byP b.2 y) (byP b.2 y) w5 a6 n5 c6 a5 n5 c5 HN5.out HN5.out (by omega) h5.rowSl (HTS.out _ _ h5.right)).mono fun e w h => h.eq (v := .bool true) (by rw [decide_eq_true rfl]))
                    clear HH hn6
                    go_wp2_with fail
                    simp only [Reg.Next]
                    refine ⟨fun _ => hC5, tr_one ?_⟩
                    simp only [nthOp]
                    go_wp2_with fail
                    refine HSm.out.mono ?_
                    rintro e w6 hq
                    have h7 := (h5.makes hq).right
                    obtain ⟨rfl, -⟩ := hq
                    clear HSm h5 hC5
                    go_wp2_with fail
                    simp only [Reg.Next]
                    refine ⟨fun _ => HCL.out _ _ h7, ?_⟩
                    refine tr_plain (.bool false) rfl ?_ (by simp only [nthOp, Act.put, List.setIfInBounds_toArray, List.set_cons_succ, List.set_cons_zero]; rfl) ?_
                    · (intro w'; simp only [nthOp]; go_simp)
                    refine tr_done ?_
                    go_wp2_with fail
                    go_loopw [12] (fun kv wy => ∃ (k : Nat) (bd : BS), k ≤ n5 ∧ kv = .int .i64 k ∧ Hid (Inv bd (121 + j * 121 + k)) ∧ Hid (bd.2 = b2.2) ∧ Hid (∀ i, isM bd i = isM b2 i) ∧ St W wy (star (IsB p bd) TK)) (fun kv _ => n5 - (intOf kv).toNat)
                    case atStart => exact ⟨0, bc, Nat.zero_le _, rfl, HJ, HB2, HM2, h7⟩
                    case round =>
                      obtain ⟨k, bd, hk, rfl, HJd, HB2d, HM2d, hU⟩ := hrel
                      clear h7
                      obtain ⟨q1, q2⟩ := HCL.out _ _ hU
                      by_cases hkn : k < n5
                      · obtain ⟨t, ht⟩ : ∃ t, (byP b.2 y)[k]? = some t := ⟨_, List.getElem?_eq_getElem (by rw [HN5.out]; exact hkn)⟩
                        have htm : t ∈ byP b.2 y := List.mem_of_getElem? ht
                        have htop : topic t = true := (HI.out.tp _ (mem_byP.1 htm)).1
                        have h32 : t.length ≤ 32 := by simp [topic] at htop; exact htop.1
                        obtain ⟨sb, so, rfl, -⟩ := elS (HTS.out _ _ hU) ht
                        have s1 := elS_at (HTS.out _ _ hU.drew) ht
                        have hdm : isM bd y = true := by rw [HM2d.out]; exact HMY.out
                        have hdt : t ∈ byP bd.2 y := by rw [HBY.out bd HB2d.out]; exact htm
                        have hdo := do_pub (k := y) (t := t) hdm htop 1
                        obtain ⟨hp1, hp2, hp3, -⟩ := pub_outs (k := y) (id := id) (t := t) hdt (by rw [HB2d.out]; exact HG4.out t) 1 [120]
                        have hp4 := pub_isM (k := y) hdm 1 t [120]
                        have hid := HJd.out.do_ y 1 (pubX t)
                        have hpl : (pubX t).length ≤ 1000000 := by simp [pubX, wPUB]; omega
                        have hrl : (pubB bd y 1 t [120]).1.length ≤ 1000000 := by
                          unfold pubB
                          simp only [List.length_map]
                          exact Nat.le_trans (ofP_le bd.2 t) (Inv.len HJd.out (by omega))
                        have HDo := Lib.hid (Do_any p bd hU.drew (Inv.len HJd.out (by omega)) (Inv.cnt HJd.out (by omega)) HG.out y 1 (pubX t) hpl)
                        rw [hdo] at HDo hid
                        obtain ⟨r, hr⟩ : ∃ r, pubB bd y 1 t [120] = r := ⟨_, rfl⟩
                        rw [hr] at HDo hid hrl hp1 hp2 hp3 hp4
                        have HP2 := Lib.hid hp2
                        have HB2r : Hid (r.2.2 = b2.2) := Lib.hid (hp3.trans HB2d.out)
                        have HM2r : Hid (∀ i, isM r.2 i = isM b2 i) := Lib.hid fun i => (hp4 i).trans (HM2d.out i)
                        have HJr := Lib.hid hid
                        have HP1 := Lib.hid hp1
                        have HTq := Lib.hid ht
                        obtain ⟨u, hu⟩ : ∃ u, wPUB ++ 32 :: t = u := ⟨_, rfl⟩
                        have hul : u.length = 4 + t.length := by rw [← hu]; simp [wPUB]; omega
                        have hpx : pubX t = u ++ [32, 120] := by rw [← hu]; simp [pubX]
                        have hcat1 : (⟨#[80, 85, 66, 32]⟩ : ByteArray) ++ ⟨t.toArray⟩ = ⟨u.toArray⟩ := by rw [← hu]; exact cat_pub t
                        have hcat2 : (⟨u.toArray⟩ : ByteArray) ++ ⟨#[32, 120]⟩ = ⟨(pubX t).toArray⟩ := by rw [hpx]; apply ByteArray.ext; rw [ByteArray.data_append]; simp
                        have hov1 : ¬ 9223372036854775807 < 4 + t.length := by omega
                        have hov2 : ¬ 9223372036854775807 < u.length + 2 := by omega
                        have hkI : (k : Int) < n5 := by omega
                        have q0 := HCL.out _ _ hU.drew

                        clear htm htop h32 hdm hdt hdo hp1 hp2 hp3 hp4 hid hpl hr ht hu hul hpx hU
                        go_wp2_with fail
                        refine Go.Proofs.YtdobgebdlbckoaaGreatDoor.Held.wp_region_held (fun w' => CL zb (zq + j) ob y (.slice (some ⟨sb, so, none⟩) n5 c5) w' ∧ w'.cell? ⟨sb, so + k, none⟩ = some (kS t)) [] trM (by kernel_rfl) (by kernel_rfl) ⟨q0, s1⟩ ?_
                        clear q0 s1 q1 q2
                        unfold trM
                        refine tr_plain (.pointer (some ⟨p, 0, none⟩)) rfl ?_ (by simp only [nthOp, Act.put, List.setIfInBounds_toArray, List.set_cons_succ, List.set_cons_zero]; rfl) ?_
                        · exact fun _ => rfl
                        refine tr_plain (.slice (some ⟨zb, zq, none⟩) n mc) rfl ?_ (by simp only [nthOp, Act.put, List.setIfInBounds_toArray, List.set_cons_succ, List.set_cons_zero]; rfl) ?_
                        · exact fun _ => rfl
                        refine tr_plain (.int .i64 j) rfl ?_ (by simp only [nthOp, Act.put, List.setIfInBounds_toArray, List.set_cons_succ, List.set_cons_zero]; rfl) ?_
                        · exact fun _ => rfl
                        refine tr_plain (.pointer (some ⟨zb, zq + j, none⟩)) rfl ?_ (by simp only [nthOp, Act.put, List.setIfInBounds_toArray, List.set_cons_succ, List.set_cons_zero]; rfl) ?_
                        · (intro w'; simp only [nthOp]; go_simp)
                        refine tr_held (.int .i64 y) rfl ?_ (by simp only [nthOp, Act.put, List.setIfInBounds_toArray, List.set_cons_succ, List.set_cons_zero]; rfl) ?_
                        · (rintro w' ⟨⟨hc1, -⟩, -⟩; simp only [nthOp]; go_simp)
                        refine tr_plain (.map (some ob)) rfl ?_ (by simp only [nthOp, Act.put, List.setIfInBounds_toArray, List.set_cons_succ, List.set_cons_zero]; rfl) ?_
                        · exact fun _ => rfl
                        refine tr_plain (.slice (some ⟨zb, zq, none⟩) n mc) rfl ?_ (by simp only [nthOp, Act.put, List.setIfInBounds_toArray, List.set_cons_succ, List.set_cons_zero]; rfl) ?_
                        · exact fun _ => rfl
                        refine tr_plain (.int .i64 j) rfl ?_ (by simp only [nthOp, Act.put, List.setIfInBounds_toArray, List.set_cons_succ, List.set_cons_zero]; rfl) ?_
                        · exact fun _ => rfl
                        refine tr_plain (.pointer (some ⟨zb, zq + j, none⟩)) rfl ?_ (by simp only [nthOp, Act.put, List.setIfInBounds_toArray, List.set_cons_succ, List.set_cons_zero]; rfl) ?_
                        · (intro w'; simp only [nthOp]; go_simp)
                        refine tr_held (.int .i64 y) rfl ?_ (by simp only [nthOp, Act.put, List.setIfInBounds_toArray, List.set_cons_succ, List.set_cons_zero]; rfl) ?_
                        · (rintro w' ⟨⟨hc1, -⟩, -⟩; simp only [nthOp]; go_simp)
                        refine tr_held (.slice (some ⟨sb, so, none⟩) n5 c5) rfl ?_ (by simp only [nthOp, Act.put, List.setIfInBounds_toArray, List.set_cons_succ, List.set_cons_zero]; rfl) ?_
                        · exact fun w' hc => exec_lookup rfl rfl rfl hc.1.2
                        refine tr_plain (.int .i64 k) rfl ?_ (by simp only [nthOp, Act.put, List.setIfInBounds_toArray, List.set_cons_succ, List.set_cons_zero]; rfl) ?_
                        · exact fun _ => rfl
                        refine tr_plain (.pointer (some ⟨sb, so + k, none⟩)) rfl ?_ (by simp only [nthOp, Act.put, List.setIfInBounds_toArray, List.set_cons_succ, List.set_cons_zero]; rfl) ?_
                        · (intro w'; simp only [nthOp]; go_simp)
                        refine tr_held (kS t) rfl ?_ (by simp only [nthOp, Act.put, List.setIfInBounds_toArray, List.set_cons_succ, List.set_cons_zero]; rfl) ?_
                        · (rintro w' ⟨-, hc1⟩; simp only [nthOp]; go_simp)
                        refine tr_plain (.string ⟨u.toArray⟩) rfl ?_ (by simp only [nthOp, Act.put, List.setIfInBounds_toArray, List.set_cons_succ, List.set_cons_zero]; rfl) ?_
                        · (intro w'; simp only [nthOp]; go_simp)
                        refine tr_plain (.string ⟨(pubX t).toArray⟩) rfl ?_ (by simp only [nthOp, Act.put, List.setIfInBounds_toArray, List.set_cons_succ, List.set_cons_zero]; rfl) ?_
                        · (intro w'; simp only [nthOp]; go_simp)
                        refine tr_one ?_
                        simp only [nthOp]
                        go_wp2_with fail
                        refine HDo.out.mono ?_
                        rintro e w8 ⟨a8, n8, c8, rfl, hn8, h8⟩
                        have HN8 := Lib.hid hn8
                        have hn8b : n8 ≤ 1000000 := by rw [← hn8]; exact hrl
                        have hn81 : ¬ ((n8 : Int) < 1) := by have := HP1.out; omega
                        clear hrl HDo hcat1 hcat2 hov1 hov2 hn8
                        go_wp2_with fail
                        simp only [Reg.Next]
                        refine ⟨fun _ => ⟨HCL.out w8 (star (Row 40 3 (.slice a8 n8 c8) n8 (outsV r.1)) (IsB p r.2)) (h8.eq (star_assoc _ _ _).symm), elS_at (HTS.out _ _ h8.right) HTq.out⟩, ?_⟩
                        refine tr_plain (.slice a8 n8 c8) rfl ?_ (by simp only [nthOp, Act.put, List.setIfInBounds_toArray, List.set_cons_succ, List.set_cons_zero]; rfl) ?_
                        · exact fun _ => rfl
                        refine tr_done ?_
                        go_wp2_with fail
                        clear hn81
                        go_loopw [14] (fun qv wz => ∃ q : Nat, q ≤ n8 ∧ qv = .int .i64 q ∧ St W wz (star (Row 40 3 (.slice a8 n8 c8) n8 (outsV r.1)) (star (IsB p r.2) TK))) (fun qv _ => n8 - (intOf qv).toNat)
                        case atStart => exact ⟨0, Nat.zero_le _, rfl, h8⟩
                        case round =>
                          obtain ⟨q, hq, rfl, hV⟩ := hrel
                          clear h8
                          by_cases hqn : q < n8
                          · obtain ⟨o, ho⟩ : ∃ o, r.1[q]? = some o := ⟨_, List.getElem?_eq_getElem (by rw [HN8.out]; exact hqn)⟩
                            have hno : (o.1 == id) = false := by simpa using HP2.out o (List.mem_of_getElem? ho)
                            obtain ⟨xb, xo, rfl, x1, -, -⟩ := elO hV.rowSl ho
                            have hqI : (q : Int) < n8 := by omega
                            clear ho
                            go_wp2_with fail
                            exact ⟨⟨q + 1, hqn, by go_num, hV⟩, by simp [intOf]; omega⟩
                          · obtain rfl : n8 = q := by omega
                            go_wp2_with fail
                            exact ⟨⟨k + 1, r.2, hkn, by go_num, HJr, HB2r, HM2r, hV.right⟩, by simp [intOf]; omega⟩
                      · obtain rfl : n5 = k := by omega
                        go_wp2_with fail
                        exact ⟨⟨j + 1, bd, hjn, by go_num, Lib.hid (HJd.out.mono (by omega)), HB2d, HM2d, HBK.out _ _ hU⟩, by simp [intOf]; omega⟩
                    -- E28
                · obtain rfl : n = j := by omega
                  have hnm : isM bc id = false := by rw [HM2.out]; exact HG1.out
                  have hnb : byP bc.2 id = [] := by rw [HB2.out]; exact HG2.out
                  have hmm2 : n * 121 ≤ 120 * 121 := Nat.mul_le_mul_right _ hn2
                  have hdo : doB bc id 1 subA = ([], bc) := by unfold doB; rw [if_neg (by rw [hnm]; simp)]
                  have hp0 : (getM id bc.1).getD 0 = 0 := by
                    have : getM id bc.1 = none := by unfold isM at hnm; simpa using hnm
                    rw [this]; rfl
                  have HIl := Inv.len HJ.out (by omega)
                  have HIc := Inv.cnt HJ.out (by omega)
                  have H1 := Lib.hid (Hears_any p bc hT HIl id)
                  clear hT
                  go_wp2_with fail
                  refine H1.out.mono ?_
                  rintro e w6 ⟨a6, n6, c6, rfl, hn6, h6⟩
                  rw [hnb] at hn6
                  obtain rfl : 0 = n6 := hn6
                  have H2 := Lib.hid (Published_any p bc h6.right id)
                  rw [hp0] at H2
                  clear H1
                  go_wp2_with fail
                  refine H2.out.mono ?_
                  rintro e w7 ⟨rfl, rfl⟩
                  have H3 := Lib.hid (Do_any p bc h6.right HIl HIc HG.out id 1 subA (by decide))
                  rw [hdo] at H3
                  clear H2 h6
                  go_wp2_with fail
                  refine H3.out.mono ?_
                  rintro e w8 ⟨a8, n8, c8, rfl, hn8, h8⟩
                  obtain rfl : 0 = n8 := hn8
                  have H4 := Lib.hid (Hears_any p bc h8.right HIl id)
                  clear H3 h8
                  go_wp2_with fail
                  refine H4.out.mono ?_
                  rintro e w9 ⟨a9, n9, c9, rfl, hn9, h9⟩
                  rw [hnb] at hn9
                  obtain rfl : 0 = n9 := hn9
                  have HJn := Lib.hid (Join_any p bc h9.right id)
                  clear H4 h9
                  by_cases hid0 : id < 0 ∨ 4611686018427387904 < id
                  · rw [show joinB bc id = (1, bc) from if_pos hid0] at HJn
                    rcases hid0 with hid0 | hid0
                    · have d1 : decide (id < 0) = true := decide_eq_true hid0
                      clear hid0
                      go_wp2_with fail
                      refine HJn.out.mono ?_
                      rintro e w10 ⟨rfl, h10⟩
                      have HW := Lib.hid (wakes_any HG.out h10)
                      clear HJn
                      go_wp2_with fail
                      refine HW.out.mono ?_
                      rintro e w11 ⟨rfl, h11⟩
                      go_wp2
                      go_ret
                      exact ⟨rfl, h11.right.right.right⟩
                    · have d1 : decide (id < 0) = false := decide_eq_false (by omega)
                      have d2 : decide (4611686018427387904 < id) = true := decide_eq_true hid0
                      clear hid0
                      go_wp2_with fail
                      refine HJn.out.mono ?_
                      rintro e w10 ⟨rfl, h10⟩
                      have HW := Lib.hid (wakes_any HG.out h10)
                      clear HJn
                      go_wp2_with fail
                      refine HW.out.mono ?_
                      rintro e w11 ⟨rfl, h11⟩
                      go_wp2
                      go_ret
                      exact ⟨rfl, h11.right.right.right⟩
                  · have d1 : decide (id < 0) = false := decide_eq_false (by omega)
                    have d2 : decide (4611686018427387904 < id) = false := decide_eq_false (by omega)
                    have hj : joinB bc id = (0, (putM id 0 bc.1, bc.2)) := by unfold joinB; rw [if_neg hid0, if_neg (by rw [hnm]; simp)]
                    rw [hj] at HJn
                    clear hid0 hj
                    go_wp2_with fail
                    refine HJn.out.mono ?_
                    rintro e w10 ⟨rfl, h10⟩
                    have H5 := Lib.hid (Hears_any p (putM id 0 bc.1, bc.2) h10 HIl id)
                    clear HJn h10
                    go_wp2_with fail
                    refine H5.out.mono ?_
                    rintro e w11 ⟨a11, n11, c11, rfl, hn11, h11⟩
                    rw [show byP (putM id 0 bc.1, bc.2).2 id = [] from hnb] at hn11
                    obtain rfl : 0 = n11 := hn11
                    have H6 := Lib.hid (Published_any p (putM id 0 bc.1, bc.2) h11.right id)
                    rw [show (getM id (putM id 0 bc.1)).getD 0 = 0 from by rw [getM_put, if_pos rfl]; rfl] at H6
                    clear H5
                    go_wp2_with fail
                    refine H6.out.mono ?_
                    rintro e w12 ⟨rfl, rfl⟩
                    have HW := Lib.hid (wakes_any HG.out h11)
                    clear H6
                    go_wp2_with fail
                    refine HW.out.mono ?_
                    rintro e w13 ⟨rfl, h13⟩
                    go_wp2
                    go_ret
                    exact ⟨rfl, h13.right.right.right.right⟩
    · have g1 : (120 : Int) < len0 := by omega
      have HW := Lib.hid (wakes_any HG.out h1)
      go_wp2_with fail
      refine HW.out.mono ?_
      rintro e w2 ⟨rfl, h2⟩
      go_wp2
      go_ret
      exact ⟨rfl, h2⟩
end Go.Proofs.YtdobgebdlbckoaaGreatDoor.BkL
