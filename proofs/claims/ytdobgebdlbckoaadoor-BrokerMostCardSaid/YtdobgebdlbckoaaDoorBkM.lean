import Derived.Test.YtdobgebdlbckoaaDoorBkMp
import Derived.Test.YtdobgebdlbckoaaDoorBkS
import Derived.Test.YtdobgebdlbckoaaDoorBkW
namespace Go.Proofs.YtdobgebdlbckoaaDoor.BkM
open Go Go.RowKit Go.Proofs Go.Proofs.YtdobgebdlbckoaaDoor.Sep Go.Proofs.YtdobgebdlbckoaaDoor.Reg Go.Proofs.YtdobgebdlbckoaaDoor.Frame Go.Proofs.YtdobgebdlbckoaaDoor.Mp Go.Proofs.YtdobgebdlbckoaaDoor.WdP Go.Proofs.YtdobgebdlbckoaaDoor.WdN Go.Proofs.YtdobgebdlbckoaaDoor.TpP Go.Proofs.YtdobgebdlbckoaaDoor.TpA Go.Proofs.YtdobgebdlbckoaaDoor.BkP Go.Proofs.YtdobgebdlbckoaaDoor.BkA Go.Proofs.YtdobgebdlbckoaaDoor.BkB Go.Proofs.YtdobgebdlbckoaaDoor.BkC Go.Proofs.YtdobgebdlbckoaaDoor.BkD Go.Proofs.YtdobgebdlbckoaaDoor.BkW Go.Proofs.YtdobgebdlbckoaaDoor.BkMp
theorem elS_at {w : World} {b o n c : Nat} {l : List Tx} (h : Sl w 1 (.slice (some ⟨b, o, none⟩) n c) n (l.map kS)) {i : Nat} {x : Tx} (hx : l[i]? = some x) : w.cell? ⟨b, o + i, none⟩ = some (kS x) := by
  have hg : (l.map kS)[i]? = some (kS x) := by rw [List.getElem?_map, hx]; rfl
  obtain ⟨ab, ao, e, hc⟩ := sl_addr h (by have := (List.getElem?_eq_some_iff.1 hg).1; omega)
  cases e
  simpa using hc i _ hg
theorem str_map (xs : List Tx) : xs.flatMap Str.E = xs.map kS := by
  induction xs with
  | nil => rfl
  | cons x l ih => rw [List.flatMap_cons, List.map_cons, ih]; rfl
theorem cat_sub (t : Tx) : (⟨#[83, 85, 66, 32]⟩ : ByteArray) ++ ⟨t.toArray⟩ = ⟨(wSUB ++ 32 :: t).toArray⟩ := by
  apply ByteArray.ext
  rw [ByteArray.data_append]
  simp [wSUB]
theorem cat_unsub (t : Tx) : (⟨#[85, 78, 83, 85, 66, 32]⟩ : ByteArray) ++ ⟨t.toArray⟩ = ⟨(wUNSUB ++ 32 :: t).toArray⟩ := by
  apply ByteArray.ext
  rw [ByteArray.data_append]
  simp [wUNSUB]
theorem few5 (H : List Tx) : ∀ e ∈ (hb H).1, e.2 ≤ 1000000 := by
  intro e he
  have he : e ∈ [((5 : Int), 0)] := he
  simp at he
  subst he
  decide
set_option maxRecDepth 100000 in
set_option maxHeartbeats 16000000 in
theorem most_any {W : World} (hG : Gl W) (a0 : Option Addr) (len0 cap0 : Nat) (xs : List Tx) (hlen : xs.length = len0) (hsl : Sl W 1 (.slice a0 len0 cap0) len0 (xs.flatMap Str.E)) (hok : ∀ x ∈ xs, Str.Ok x) :
    Calls Tryd.prog 3 #[.slice a0 len0 cap0] W (Law W emp) := by
  rw [str_map] at hsl
  have HSL := Lib.hid hsl
  have HLEN := Lib.hid hlen
  have HOK := Lib.hid hok
  have HG := Lib.hid hG
  clear hsl hlen hok hG
  by_cases hb0 : len0 ≤ 20
  · have g1 : ¬ (20 : Int) < len0 := by omega
    have HN := Lib.hid (New_any (St.start W))
    go_enter Tryd.func3, Tryd.ntmps3
    go_wp2_with fail
    refine HN.out.mono ?_
    rintro e w0 ⟨p, rfl, h0⟩
    have HJ := Lib.hid (Join_any p ([], []) h0 5)
    rw [join5] at HJ
    clear HN h0
    go_wp2_with fail
    refine HJ.out.mono ?_
    rintro e w1 ⟨rfl, h1⟩
    clear HJ
    go_wp2_with fail
    go_loopw [4, 5] (fun hv iv wr => ∃ (i n : Nat) (va : Option Addr) (vc : Nat) (H : List Tx), i ≤ len0 ∧ iv = .int .i64 i ∧ hv = .slice va n vc ∧ n ≤ i ∧ Hid (H.length = n) ∧ Hid (H.Nodup) ∧ Hid (∀ t ∈ H, topic t = true) ∧ St W wr (star (IsB p (hb H)) (star (Row 9 1 (.slice va n vc) n (H.map kS)) emp))) (fun _ iv _ => len0 - (intOf iv).toNat)
    case atStart => exact ⟨0, 0, none, 0, [], Nat.zero_le _, rfl, rfl, Nat.le_refl _, Lib.hid rfl, Lib.hid List.nodup_nil, Lib.hid (by simp), h1.eq (by rw [List.map_nil, Row_nil, emp_star])⟩
    case round =>
      obtain ⟨i, n, va, vc, H, hi, rfl, rfl, hni, HN, HD, HT, hS⟩ := hrel
      clear h1
      by_cases hin : i < len0
      · obtain ⟨t, ht⟩ : ∃ t, xs[i]? = some t := ⟨_, List.getElem?_eq_getElem (by rw [HLEN.out]; exact hin)⟩
        obtain ⟨ab, ao, rfl, hel⟩ := elS HSL.out ht
        have he := hel _ _ hS
        have hinI : (i : Int) < len0 := by omega
        have hot := HOK.out t (List.mem_of_getElem? ht)
        have hot2 : t.length ≤ 9223372036854775807 := by have := hot; simpa [Str.Ok, maxLen] using this
        clear hel hot
        have HX := Lib.hid ht
        clear ht
        cases htp : topic t
        · by_cases h32 : t.length ≤ 32
          · have hd : decide ((32 : Int) < t.length) = false := decide_eq_false (by omega)
            have HTo := Lib.hid (WdT.Topic_any t wr (by omega))
            rw [htp] at HTo
            clear h32
            go_wp2_with fail
            refine HTo.out.mono ?_
            rintro e w2 hq
            obtain ⟨rfl, rfl⟩ := hq
            go_wp2_with fail
            exact ⟨⟨i + 1, n, va, vc, H, hin, by go_num, rfl, by omega, HN, HD, HT, hS⟩, by simp [intOf]; omega⟩
          · have hd : decide ((32 : Int) < t.length) = true := decide_eq_true (by omega)
            clear h32
            go_wp2_with fail
            exact ⟨⟨i + 1, n, va, vc, H, hin, by go_num, rfl, by omega, HN, HD, HT, hS⟩, by simp [intOf]; omega⟩
        · have h32 : t.length ≤ 32 := by simp [topic] at htp; exact htp.1
          have hd : decide ((32 : Int) < t.length) = false := decide_eq_false (by omega)
          have HTo := Lib.hid (WdT.Topic_any t wr (by omega))
          rw [htp] at HTo
          have HTP := Lib.hid htp
          have HL := Lib.hid h32
          clear h32 htp
          go_wp2_with fail
          refine HTo.out.mono ?_
          rintro e w2 hq
          obtain ⟨rfl, rfl⟩ := hq
          clear HTo hd
          go_wp2_with fail
          go_loopw [7, 8] (fun tv kv wy => ∃ k : Nat, k ≤ n ∧ kv = .int .i64 k ∧ tv = .bool (decide (t ∈ H.take k)) ∧ St W wy (star (IsB p (hb H)) (star (Row 9 1 (.slice va n vc) n (H.map kS)) emp))) (fun _ kv _ => n - (intOf kv).toNat)
          case atStart => exact ⟨0, Nat.zero_le _, rfl, by simp, hS⟩
          case round =>
            obtain ⟨k, hk, rfl, rfl, hT⟩ := hrel
            clear hS
            by_cases hkn : k < n
            · obtain ⟨y, hy⟩ : ∃ y, H[k]? = some y := ⟨_, List.getElem?_eq_getElem (by rw [HN.out]; exact hkn)⟩
              obtain ⟨zb, zq, rfl, -⟩ := elS hT.right.rowSl hy
              have c1 := elS_at hT.right.rowSl hy
              have hknI : (k : Int) < n := by omega
              have HMS : Hid (decide (t ∈ H.take (k + 1)) = (decide (t ∈ H.take k) || (y == t))) := Lib.hid (by
                rw [List.take_add_one, hy]
                by_cases h1 : t ∈ H.take k
                · simp [h1]
                · by_cases h2 : y = t
                  · simp [h2]
                  · simp [h1, h2, Ne.symm h2])
              clear hy
              cases hth : decide (t ∈ H.take k)
              · rw [hth] at HMS
                clear hth
                cases hyt : (y == t)
                · rw [hyt] at HMS
                  go_wp2_with fail
                  exact ⟨⟨k + 1, hkn, by go_num, by rw [HMS.out]; rfl, hT⟩, by simp [intOf]; omega⟩
                · rw [hyt] at HMS
                  go_wp2_with fail
                  exact ⟨⟨k + 1, hkn, by go_num, by rw [HMS.out]; rfl, hT⟩, by simp [intOf]; omega⟩
              · rw [hth] at HMS
                clear hth
                go_wp2_with fail
                exact ⟨⟨k + 1, hkn, by go_num, by rw [HMS.out]; rfl, hT⟩, by simp [intOf]; omega⟩
            · obtain rfl : n = k := by omega
              have hall : decide (t ∈ H.take n) = decide (t ∈ H) := by rw [List.take_of_length_le (by rw [HN.out]; exact Nat.le_refl _)]
              rw [hall]
              have hcat : (⟨#[83, 85, 66, 32]⟩ : ByteArray) ++ ⟨t.toArray⟩ = ⟨(wSUB ++ 32 :: t).toArray⟩ := cat_sub t
              have hov : ¬ 9223372036854775807 < 4 + t.length := by have := HL.out; omega
              have HDo := Lib.hid (Do_any p (hb H) hT (by rw [show (hb H).2 = hp H from rfl, hp_len, HN.out]; omega) (few5 H) HG.out 5 1 (wSUB ++ 32 :: t) (by have := HL.out; simp [wSUB]; omega))
              clear hall
              by_cases hm : t ∈ H
              · rw [do_sub HTP.out (.inl hm), show addT H t = H from if_pos hm] at HDo
                rw [decide_eq_true hm]
                clear hm hT
                go_wp2_with fail
                refine HDo.out.mono ?_
                rintro e w3 ⟨a3, n3, c3, rfl, hn3, h3⟩
                obtain rfl : 0 = n3 := hn3
                clear hcat hov HDo
                have HHr := Lib.hid (Hears_any p (hb H) h3.right (by rw [show (hb H).2 = hp H from rfl, hp_len, HN.out]; omega) 5)
                go_wp2_with fail
                refine HHr.out.mono ?_
                rintro e w4 ⟨a4, n4, c4, rfl, hn4, h5⟩
                rw [show byP (hb H).2 5 = H from hp_by H] at hn4 h5
                obtain rfl : n = n4 := (HN.out).symm.trans hn4
                have HSm := Lib.hid ((BkS.sameS_any H H w4 a4 (n) c4 va (n) vc (HN.out) (HN.out) (by omega) h5.rowSl h5.right.right.rowSl).mono fun e w h => h.eq (v := .bool true) (by rw [decide_eq_true rfl]))
                clear hn4 HHr
                go_wp2_with fail
                refine HSm.out.mono ?_
                rintro e w5 hq
                have h6 := h5.makes hq
                obtain ⟨rfl, -⟩ := hq
                go_wp2_with fail
                exact ⟨⟨i + 1, n, va, vc, H, hin, by go_num, rfl, by omega, HN, HD, HT, h6.right⟩, by simp [intOf]; omega⟩
              · rw [decide_eq_false hm]
                by_cases h8 : 8 ≤ n
                · have h8d : decide ((8 : Int) ≤ (n : Int)) = true := decide_eq_true (by omega)
                  rw [do_full HTP.out hm (by rw [HN.out]; exact h8)] at HDo
                  clear hm hT h8
                  go_wp2_with fail
                  refine HDo.out.mono ?_
                  rintro e w3 ⟨a3, n3, c3, rfl, hn3, h3⟩
                  obtain rfl : 1 = n3 := hn3
                  obtain ⟨xb, xo, rfl, x1, x2, x3⟩ := elO h3.rowSl (i := 0) (x := (5, 1, [69, 82, 82, 32, 50])) rfl
                  simp only [Nat.zero_mul, Nat.add_zero] at x1 x2 x3
                  have hc3 : 1 ≤ c3 ∧ c3 ≤ 9223372036854775807 := by obtain ⟨_, _, _, hv, h1, h2, _⟩ := h3.rowSl; cases hv; exact ⟨h1, by simpa [maxLen] using h2⟩
                  clear hcat hov HDo
                  have HHr := Lib.hid (Hears_any p (hb H) h3.right (by rw [show (hb H).2 = hp H from rfl, hp_len, HN.out]; omega) 5)
                  go_wp2_with fail
                  refine HHr.out.mono ?_
                  rintro e w4 ⟨a4, n4, c4, rfl, hn4, h5⟩
                  rw [show byP (hb H).2 5 = H from hp_by H] at hn4 h5
                  obtain rfl : n = n4 := (HN.out).symm.trans hn4
                  have HSm := Lib.hid ((BkS.sameS_any H H w4 a4 (n) c4 va (n) vc (HN.out) (HN.out) (by omega) h5.rowSl h5.right.right.rowSl).mono fun e w h => h.eq (v := .bool true) (by rw [decide_eq_true rfl]))
                  clear hn4 HHr
                  go_wp2_with fail
                  refine HSm.out.mono ?_
                  rintro e w5 hq
                  have h6 := h5.makes hq
                  obtain ⟨rfl, -⟩ := hq
                  go_wp2_with fail
                  exact ⟨⟨i + 1, n, va, vc, H, hin, by go_num, rfl, by omega, HN, HD, HT, h6.right⟩, by simp [intOf]; omega⟩
                · have h8d : decide ((8 : Int) ≤ (n : Int)) = false := decide_eq_false (by omega)
                  rw [do_sub HTP.out (.inr (by rw [HN.out]; omega)), show addT H t = H ++ [t] from if_neg hm] at HDo
                  have HM := Lib.hid hm
                  clear hm hT h8
                  go_wp2_with fail
                  refine HDo.out.mono ?_
                  rintro e w3 ⟨a3, n3, c3, rfl, hn3, h3⟩
                  obtain rfl : 0 = n3 := hn3
                  clear hcat hov HDo
                  obtain ⟨i0, hi0, hz0, hz1, hz2⟩ := info_parts infoS
                  have h9 := h3.eq (B := star (Row 9 1 (.slice va n vc) n (H.map kS)) (star (Row 32 3 (.slice a3 0 c3) 0 (outsV [])) (star (IsB p (hb (H ++ [t]))) emp))) (by show star _ (star _ (star _ _)) = _; ac_rfl)
                  have HN2 : Hid ((H ++ [t]).length = n + 1) := Lib.hid (by rw [List.length_append, HN.out]; rfl)
                  have HD2 : Hid ((H ++ [t]).Nodup) := Lib.hid (by have := addT_nodup HD.out t; rwa [show addT H t = H ++ [t] from if_neg HM.out] at this)
                  have HT2 : Hid (∀ x ∈ H ++ [t], topic x = true) := Lib.hid (by intro x hx; rcases List.mem_append.1 hx with hx | hx; exact HT.out x hx; simp at hx; subst hx; exact HTP.out)
                  go_wp2_with (at_builtin; refine wpList_append1 rfl (.tmp 91) (.tmp 93) 22 rfl 9 i0 _ 1 16 Tryd.underlying22 hi0 hz0 hz1 hz2 rfl _ n _ rfl h9 #[.string ⟨t.toArray⟩] rfl rfl (by intro u hu; simp at hu; subst hu; rfl) (by unfold maxLen; omega) (by omega) ?_)
                  intro a7 c7 w7 h10
                  have h11 := h10.eq (B := star (IsB p (hb (H ++ [t]))) (star (Row 9 1 (.slice (some ⟨a7, 0, none⟩) (n + 1) c7) (n + 1) ((H ++ [t]).map kS)) (star (Row 32 3 (.slice a3 0 c3) 0 (outsV [])) emp))) (by rw [List.map_append]; show star _ (star _ (star _ _)) = star _ (star _ (star _ _)); ac_rfl)
                  clear h9 h10 h3
                  have HHr := Lib.hid (Hears_any p (hb (H ++ [t])) h11 (by rw [show (hb (H ++ [t])).2 = hp (H ++ [t]) from rfl, hp_len, HN2.out]; omega) 5)
                  go_wp2_with fail
                  refine HHr.out.mono ?_
                  rintro e w4 ⟨a4, n4, c4, rfl, hn4, h5⟩
                  rw [show byP (hb (H ++ [t])).2 5 = (H ++ [t]) from hp_by (H ++ [t])] at hn4 h5
                  obtain rfl : n + 1 = n4 := (HN2.out).symm.trans hn4
                  have HSm := Lib.hid ((BkS.sameS_any (H ++ [t]) (H ++ [t]) w4 a4 (n + 1) c4 (some ⟨a7, 0, none⟩) (n + 1) c7 (HN2.out) (HN2.out) (by omega) h5.rowSl h5.right.right.rowSl).mono fun e w h => h.eq (v := .bool true) (by rw [decide_eq_true rfl]))
                  clear hn4 HHr
                  go_wp2_with fail
                  refine HSm.out.mono ?_
                  rintro e w5 hq
                  have h6 := h5.makes hq
                  obtain ⟨rfl, -⟩ := hq
                  go_wp2_with fail
                  have h7 := h6.right.eq (B := star (Row 32 3 (.slice a3 0 c3) 0 (outsV [])) (star (IsB p (hb (H ++ [t]))) (star (Row 9 1 (.slice (some ⟨a7, 0, none⟩) (n + 1) c7) (n + 1) ((H ++ [t]).map kS)) emp))) (by ac_rfl)
                  exact ⟨⟨i + 1, n + 1, some ⟨a7, 0, none⟩, c7, H ++ [t], hin, by go_num, rfl, by omega, HN2, HD2, HT2, h7.right⟩, by simp [intOf]; omega⟩
      · obtain rfl : i = len0 := by omega
        by_cases h8 : n = 8
        · subst h8
          obtain ⟨t, ht⟩ : ∃ t, H[0]? = some t := ⟨_, List.getElem?_eq_getElem (by rw [HN.out]; omega)⟩
          obtain ⟨zb, zq, rfl, -⟩ := elS hS.right.rowSl ht
          have c1 := elS_at hS.right.rowSl ht
          rw [Nat.add_zero] at c1
          have hmt := List.mem_of_getElem? ht
          have htt := HT.out t hmt
          have h32 : t.length ≤ 32 := by simp [topic] at htt; exact htt.1
          have hvc : 8 ≤ vc ∧ vc ≤ 9223372036854775807 := by obtain ⟨_, _, _, hv, h1, h2, _⟩ := hS.right.rowSl; cases hv; exact ⟨h1, by simpa [maxLen] using h2⟩
          have hcat := cat_unsub t
          have hcat2 := cat_sub t
          have hov : ¬ 9223372036854775807 < 6 + t.length := by omega
          have hov2 : ¬ 9223372036854775807 < 4 + t.length := by omega
          have HDo := Lib.hid (Do_any p (hb H) hS (by rw [show (hb H).2 = hp H from rfl, hp_len, HN.out]; omega) (few5 H) HG.out 5 1 (wUNSUB ++ 32 :: t) (by simp [wUNSUB]; omega))
          rw [do_unsub htt hmt] at HDo
          have hfl := filter_len HD.out hmt
          obtain ⟨F, hF⟩ : ∃ F, (H.filter fun x => decide (x ≠ t)) = F := ⟨_, rfl⟩
          have HF : Hid (t ∉ F) := Lib.hid (by rw [← hF]; simp)
          rw [hF] at HDo hfl
          have HFL : Hid (F.length = 7) := Lib.hid (by have := HN.out; omega)
          have HTT := Lib.hid htt
          have HH0 := Lib.hid ht
          clear hfl hF hmt ht htt hS
          go_wp2_with fail
          refine HDo.out.mono ?_
          rintro e w3 ⟨a3, n3, c3, rfl, hn3, h3⟩
          obtain rfl : 0 = n3 := hn3
          have c2 := elS_at h3.right.right.rowSl HH0.out
          rw [Nat.add_zero] at c2
          have HDo2 := Lib.hid (Do_any p (hb F) h3.right (by rw [show (hb F).2 = hp F from rfl, hp_len, HFL.out]; omega) (few5 F) HG.out 5 1 (wSUB ++ 32 :: t) (by simp [wSUB]; omega))
          rw [do_sub HTT.out (.inr (by rw [HFL.out]; omega)), show addT F t = F ++ [t] from if_neg HF.out] at HDo2
          clear h3 HDo
          go_wp2_with fail
          refine HDo2.out.mono ?_
          rintro e w4 ⟨a4, n4, c4, rfl, hn4, h4⟩
          obtain rfl : 0 = n4 := hn4
          have HHr := Lib.hid (Hears_any p (hb (F ++ [t])) h4.right (by rw [show (hb (F ++ [t])).2 = hp (F ++ [t]) from rfl, hp_len, List.length_append, HFL.out]; simp) 5)
          clear h4 HDo2 c2
          go_wp2_with fail
          refine HHr.out.mono ?_
          rintro e w5 ⟨a5, n5, c5, rfl, hn5, h5⟩
          rw [show byP (hb (F ++ [t])).2 5 = F ++ [t] from hp_by _] at hn5
          rw [List.length_append, HFL.out] at hn5
          obtain rfl : 8 = n5 := hn5
          have HW := Lib.hid (wakes_any HG.out h5)
          clear HHr
          go_wp2_with fail
          refine HW.out.mono ?_
          rintro e w2 ⟨rfl, h2⟩
          go_wp2
          go_ret
          exact ⟨rfl, h2.right.right.right⟩
        · have h8d : ((n : Int) == 8) = false := by simp; omega
          have HW := Lib.hid (wakes_any HG.out hS)
          clear h8
          go_wp2_with fail
          refine HW.out.mono ?_
          rintro e w2 ⟨rfl, h2⟩
          go_wp2
          go_ret
          exact ⟨rfl, h2.right.right⟩
  · have g1 : (20 : Int) < len0 := by omega
    have HW := Lib.hid (wakes_any HG.out (St.start W))
    go_enter Tryd.func3, Tryd.ntmps3
    go_wp2_with fail
    refine HW.out.mono ?_
    rintro e w2 ⟨rfl, h2⟩
    go_wp2
    go_ret
    exact ⟨rfl, h2⟩
end Go.Proofs.YtdobgebdlbckoaaDoor.BkM
