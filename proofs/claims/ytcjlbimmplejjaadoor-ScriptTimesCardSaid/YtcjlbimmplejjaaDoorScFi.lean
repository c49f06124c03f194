import Derived.Test.YtcjlbimmplejjaaDoorScK
namespace Go.Proofs.YtcjlbimmplejjaaDoor.ScFi
open Go Go.RowKit Go.Proofs Go.Proofs.YtcjlbimmplejjaaDoor.Sep Go.Proofs.YtcjlbimmplejjaaDoor.Reg Go.Proofs.YtcjlbimmplejjaaDoor.Frame Go.Proofs.YtcjlbimmplejjaaDoor.WdP Go.Proofs.YtcjlbimmplejjaaDoor.WdT Go.Proofs.YtcjlbimmplejjaaDoor.WdN Go.Proofs.YtcjlbimmplejjaaDoor.ScP Go.Proofs.YtcjlbimmplejjaaDoor.ScQ Go.Proofs.YtcjlbimmplejjaaDoor.ScT Go.Proofs.YtcjlbimmplejjaaDoor.ScB Go.Proofs.YtcjlbimmplejjaaDoor.ScA Go.Proofs.YtcjlbimmplejjaaDoor.ScM Go.Proofs.YtcjlbimmplejjaaDoor.ScI Go.Proofs.YtcjlbimmplejjaaDoor.ScH Go.Proofs.YtcjlbimmplejjaaDoor.ScK

def GlE (W : World) : Prop := Gl W ∧ Er W
/-- What Parse tells, in words. -/
theorem Parse_as {W w : World} {R : Asn} (hG : GlE W) {t : Tx} {l : List Ac} {i e : Nat} (hp : parseP t = (l, i, e)) (ht : t.length ≤ 1000000) (h : St W w R) :
    Calls Tryd.prog 9 #[.string ⟨t.toArray⟩] w fun x w' => ∃ v, x = .returned (.tuple #[v, .int .i64 (i : Nat), .int .i64 (e : Nat)]) ∧ St W w' (star (Row 36 4 v l.length (actsV l)) R) :=
  (Parse_any hG.1 hG.2 t ht h).mono fun x w' h => by unfold PPst at h; rw [hp] at h; exact h
theorem parse_e (t : Tx) : (parseP t).2.2 = 0 ∨ (parseP t).2.2 = 3 ∨ (parseP t).2.2 = 8 ∨ (parseP t).2.2 = 11 := by
  unfold parseP
  split
  · exact .inr (.inl rfl)
  · cases goP (lns t) 0 st0 with
    | error n => exact .inr (.inr (.inl rfl))
    | ok st =>
      match st with
      | [] => exact .inl rfl
      | [b] => by_cases h : 4096 < b.many <;> simp [finP, h]
      | b :: c :: q => exact .inr (.inr (.inr rfl))
theorem parse_0 {t : Tx} (h : (parseP t).2.2 = 0) : (parseP t).2.1 = 0 := by
  revert h
  unfold parseP
  split
  · intro h; simp at h
  · cases goP (lns t) 0 st0 with
    | error n => intro h; simp [finP] at h
    | ok st =>
      match st with
      | [] => exact fun _ => rfl
      | [b] => by_cases h : 4096 < b.many <;> simp [finP, h]
      | b :: c :: q => intro h; simp [finP] at h
theorem parse_8 {t : Tx} {l : List Ac} {i : Nat} (ht : t.length ≤ 65536) (h : parseP t = (l, i, 8)) : goP (lns t) 0 st0 = .error i := by
  obtain ⟨n, hn⟩ := (parseP_form ht).1 (by rw [h])
  unfold parseP at h
  rw [if_neg (by omega), hn] at h
  simp only [finP, Prod.mk.injEq] at h
  rw [hn, h.2.1]
set_option maxRecDepth 100000 in
set_option maxHeartbeats 16000000 in
theorem first_any (t : Tx) (_ : (⟨t.toArray⟩ : ByteArray).size ≤ maxLen) (u : Tx) (_ : (⟨u.toArray⟩ : ByteArray).size ≤ maxLen) {W : World} (hG : GlE W) :
    Calls Tryd.prog 4 #[.string ⟨t.toArray⟩, .string ⟨u.toArray⟩] W (Law W emp) := by
  have HAw := Lib.hid (awake_any hG.1 hG.2 (St.start W))
  have HG := Lib.hid hG
  clear hG
  by_cases h1 : 3000 < t.length
  · have h1I : (3000 : Int) < t.length := by omega
    go_enter Tryd.func4, Tryd.ntmps4
    go_wp2_with fail
    refine HAw.out.mono ?_
    rintro e w1 ⟨rfl, hS⟩
    have HS := Lib.hid hS
    clear hS
    go_wp2
    go_ret
    exact ⟨rfl, HS.out⟩
  by_cases h2 : 3000 < u.length
  · have h1I : ¬ (3000 : Int) < t.length := by omega
    have h2I : (3000 : Int) < u.length := by omega
    go_enter Tryd.func4, Tryd.ntmps4
    go_wp2_with fail
    refine HAw.out.mono ?_
    rintro e w1 ⟨rfl, hS⟩
    have HS := Lib.hid hS
    clear hS
    go_wp2
    go_ret
    exact ⟨rfl, HS.out⟩
  have h1I : ¬ (3000 : Int) < t.length := by omega
  have h2I : ¬ (3000 : Int) < u.length := by omega
  obtain ⟨l, line, e, hp⟩ : ∃ l i e, parseP t = (l, i, e) := ⟨_, _, _, rfl⟩
  have he := parse_e t
  have h0 := @parse_0 t
  rw [hp] at he h0
  have HP := Lib.hid hp
  have HE := Lib.hid he
  have H0 := Lib.hid h0
  clear hp he h0
  go_enter Tryd.func4, Tryd.ntmps4
  go_wp2_with fail
  refine HAw.out.mono ?_
  rintro e' w1 ⟨rfl, hS⟩
  have HPa := Lib.hid (Parse_as HG.out HP.out (by omega) hS)
  clear HAw hS
  go_wp2_with fail
  refine HPa.out.mono ?_
  rintro e' w2 ⟨v, rfl, hS⟩
  have hS1 := hS.right
  clear HPa hS
  by_cases h8 : e = 8
  · subst h8
    have hgo := parse_8 (by omega) HP.out
    obtain ⟨A, Fr, hcut, hA, hF, hp1, hp2, hp3⟩ := first_law (behind := u) (by omega) (by omega) hgo
    have HCUT := Lib.hid hcut
    have HP1 := Lib.hid hp1
    have HP2 := Lib.hid hp2
    have HP3 := Lib.hid hp3
    have hS2 := hS1
    clear hgo hcut hp1 hp2 hp3 hS1
    go_wp2_with fail
    go_loopw [8, 9, 10] (fun av nv fv wr => ∃ (at' n fr : Nat), at' ≤ t.length ∧ av = .int .i64 at' ∧ nv = .int .i64 n ∧ fv = .int .i64 fr ∧ n ≤ at' + 1 ∧ Hid (cutW line (t.drop at') n at' fr = (A, Fr)) ∧ St W wr emp) (fun av _ _ _ => t.length - (intOf av).toNat)
    case atStart => exact ⟨0, 1, 0, Nat.zero_le _, rfl, rfl, rfl, by omega, HCUT, hS2⟩
    case round =>
      obtain ⟨at', n, fr, hat, rfl, rfl, rfl, hn, HC, hS⟩ := hrel
      clear hS2
      by_cases hend : at' < t.length
      · have hatI : (at' : Int) < t.length := by omega
        have hsz : at' < (ByteArray.mk t.toArray).size := by simpa [ByteArray.size] using hend
        have hg := get_at ⟨t.toArray⟩ at' hsz
        have hdr : t.drop at' = (ByteArray.mk t.toArray)[at']'hsz :: t.drop (at' + 1) := by
          rw [List.drop_eq_getElem_cons hend]; rfl
        generalize hc : (ByteArray.mk t.toArray)[at']'hsz = c at *
        have hcw := HC.out
        rw [hdr] at hcw
        simp only [cutW] at hcw
        by_cases hc10 : c = 10
        · subst hc10
          by_cases hnl : n < line
          · have hnI : (n : Int) < line := by omega
            rw [if_pos (.inl hnl), if_pos rfl] at hcw
            have HCN := Lib.hid hcw
            clear hcw hdr hg
            go_wp2_with fail
            exact ⟨⟨at' + 1, n + 1, at' + 1, by omega, by go_num, by go_num, by go_num, by omega, HCN, hS⟩, by simp [intOf]; omega⟩
          · have hnI : ¬ (n : Int) < line := by omega
            rw [if_neg (by rintro (h | h); exact hnl h; exact h rfl)] at hcw
            obtain ⟨rfl, rfl⟩ := Prod.mk.inj hcw
            clear hcw hdr hg
            have hpa := HP1.out
            have hpb := HP2.out
            have hext1 : (ByteArray.mk t.toArray).extract 0 at' = ByteArray.mk (t.take at').toArray := by rw [str_extract]; simp
            have hext2 : (ByteArray.mk t.toArray).extract 0 fr = ByteArray.mk (t.take fr).toArray := by rw [str_extract]; simp
            obtain ⟨T1, hT1⟩ : ∃ z, t.take at' = z := ⟨_, rfl⟩
            obtain ⟨T3, hT3⟩ : ∃ z, t.take fr = z := ⟨_, rfl⟩
            have hl1 : T1.length ≤ 3000 := by rw [← hT1, List.length_take]; omega
            have hl3 : T3.length ≤ 3000 := by rw [← hT3, List.length_take]; omega
            have hp3 := HP3.out
            rw [hT1] at hext1 hpa hpb
            rw [hT3] at hext2 hp3
            obtain ⟨l3, i3, e3, hpc⟩ : ∃ l i e, parseP T3 = (l, i, e) := ⟨_, _, _, rfl⟩
            have he3 := parse_e T3
            rw [hpc] at hp3 he3
            have hadd1 := run_str_add (P := Tryd.prog) T1 [10] (by simp; omega)
            have hadd2 := run_str_add (P := Tryd.prog) (T1 ++ [10]) u (by simp; omega)
            rw [show T1 ++ 10 :: u = T1 ++ [10] ++ u from by simp] at hpb
            obtain ⟨T1b, hT1b⟩ : ∃ z, T1 ++ [10] = z := ⟨_, rfl⟩
            rw [hT1b] at hadd1 hadd2 hpb
            have hl1b : T1b.length ≤ 3001 := by rw [← hT1b, List.length_append, List.length_singleton]; omega
            obtain ⟨T2, hT2⟩ : ∃ z, T1b ++ u = z := ⟨_, rfl⟩
            rw [hT2] at hadd2 hpb
            have hl2 : T2.length ≤ 7000 := by rw [← hT2, List.length_append]; omega
            have he3' : e3 = 0 ∨ e3 = 3 ∨ e3 = 11 := by
              simp only at hp3 he3
              omega
            have HPA := Lib.hid hpa
            have HPB := Lib.hid hpb
            have HPC := Lib.hid hpc
            have HE3 := Lib.hid he3'
            have H1 := Lib.hid (Parse_as HG.out HPA.out (by omega) hS)
            clear hpa hpb hpc hp3 he3 he3' hT1 hT3 hT1b hT2 hS
            go_wp2_with fail
            refine H1.out.mono ?_
            rintro e' w5 ⟨v5, rfl, hS⟩
            have hSx := hS.right
            have H2 := Lib.hid (Parse_as HG.out HPB.out (by omega) hSx)
            clear hS hSx H1
            go_wp2_with fail
            refine H2.out.mono ?_
            rintro e' w6 ⟨v6, rfl, hS⟩
            have hSx := hS.right
            have H3 := Lib.hid (Parse_as HG.out HPC.out (by omega) hSx)
            clear hS hSx H2
            go_wp2_with fail
            refine H3.out.mono ?_
            rintro e' w7 ⟨v7, rfl, hS⟩
            have HS := Lib.hid hS.right
            clear hS H3
            rcases HE3.out with rfl | rfl | rfl
            · go_wp2
              go_ret
              exact ⟨rfl, HS.out⟩
            · go_wp2
              go_ret
              exact ⟨rfl, HS.out⟩
            · go_wp2
              go_ret
              exact ⟨rfl, HS.out⟩
        · have hne : ((c.toNat : Int) == 10) = false := by
            rw [beq_eq_false_iff_ne]
            intro e
            exact hc10 (UInt8.toNat_inj.1 (by simpa using (by omega : c.toNat = 10)))
          rw [if_pos (.inr hc10), if_neg hc10] at hcw
          have HCN := Lib.hid hcw
          clear hcw hdr hg hc10
          by_cases hnl : n < line
          · have hnI : (n : Int) < line := by omega
            go_wp2_with fail
            exact ⟨⟨at' + 1, n, fr, by omega, by go_num, rfl, rfl, by omega, HCN, hS⟩, by simp [intOf]; omega⟩
          · have hnI : ¬ (n : Int) < line := by omega
            go_wp2_with fail
            exact ⟨⟨at' + 1, n, fr, by omega, by go_num, rfl, rfl, by omega, HCN, hS⟩, by simp [intOf]; omega⟩
      · obtain rfl : t.length = at' := by omega
        have hcw := HC.out
        rw [List.drop_length] at hcw
        simp only [cutW] at hcw
        obtain ⟨rfl, rfl⟩ := Prod.mk.inj hcw
        clear hcw
        have hpa := HP1.out
        have hpb := HP2.out
        have hext1 : (ByteArray.mk t.toArray).extract 0 t.length = ByteArray.mk (t.take t.length).toArray := by rw [str_extract]; simp
        have hext2 : (ByteArray.mk t.toArray).extract 0 fr = ByteArray.mk (t.take fr).toArray := by rw [str_extract]; simp
        obtain ⟨T1, hT1⟩ : ∃ z, t.take t.length = z := ⟨_, rfl⟩
        obtain ⟨T3, hT3⟩ : ∃ z, t.take fr = z := ⟨_, rfl⟩
        have hl1 : T1.length ≤ 3000 := by rw [← hT1, List.length_take]; omega
        have hl3 : T3.length ≤ 3000 := by rw [← hT3, List.length_take]; omega
        have hp3 := HP3.out
        rw [hT1] at hext1 hpa hpb
        rw [hT3] at hext2 hp3
        obtain ⟨l3, i3, e3, hpc⟩ : ∃ l i e, parseP T3 = (l, i, e) := ⟨_, _, _, rfl⟩
        have he3 := parse_e T3
        rw [hpc] at hp3 he3
        have hadd1 := run_str_add (P := Tryd.prog) T1 [10] (by simp; omega)
        have hadd2 := run_str_add (P := Tryd.prog) (T1 ++ [10]) u (by simp; omega)
        rw [show T1 ++ 10 :: u = T1 ++ [10] ++ u from by simp] at hpb
        obtain ⟨T1b, hT1b⟩ : ∃ z, T1 ++ [10] = z := ⟨_, rfl⟩
        rw [hT1b] at hadd1 hadd2 hpb
        have hl1b : T1b.length ≤ 3001 := by rw [← hT1b, List.length_append, List.length_singleton]; omega
        obtain ⟨T2, hT2⟩ : ∃ z, T1b ++ u = z := ⟨_, rfl⟩
        rw [hT2] at hadd2 hpb
        have hl2 : T2.length ≤ 7000 := by rw [← hT2, List.length_append]; omega
        have he3' : e3 = 0 ∨ e3 = 3 ∨ e3 = 11 := by
          simp only at hp3 he3
          omega
        have HPA := Lib.hid hpa
        have HPB := Lib.hid hpb
        have HPC := Lib.hid hpc
        have HE3 := Lib.hid he3'
        have H1 := Lib.hid (Parse_as HG.out HPA.out (by omega) hS)
        clear hpa hpb hpc hp3 he3 he3' hT1 hT3 hT1b hT2 hS
        go_wp2_with fail
        refine H1.out.mono ?_
        rintro e' w5 ⟨v5, rfl, hS⟩
        have hSx := hS.right
        have H2 := Lib.hid (Parse_as HG.out HPB.out (by omega) hSx)
        clear hS hSx H1
        go_wp2_with fail
        refine H2.out.mono ?_
        rintro e' w6 ⟨v6, rfl, hS⟩
        have hSx := hS.right
        have H3 := Lib.hid (Parse_as HG.out HPC.out (by omega) hSx)
        clear hS hSx H2
        go_wp2_with fail
        refine H3.out.mono ?_
        rintro e' w7 ⟨v7, rfl, hS⟩
        have HS := Lib.hid hS.right
        clear hS H3
        rcases HE3.out with rfl | rfl | rfl
        · go_wp2
          go_ret
          exact ⟨rfl, HS.out⟩
        · go_wp2
          go_ret
          exact ⟨rfl, HS.out⟩
        · go_wp2
          go_ret
          exact ⟨rfl, HS.out⟩
  · have h8I : ((e : Int) != 8) = true := by rw [bne_iff_ne]; omega
    by_cases e0 : e = 0
    · subst e0
      have hl0 : line = 0 := H0.out rfl
      subst hl0
      have HS := Lib.hid hS1
      clear hS1 h8
      go_wp2
      go_ret
      exact ⟨rfl, HS.out⟩
    · have e0I : ((e : Int) != 0) = true := by rw [bne_iff_ne]; omega
      have HS := Lib.hid hS1
      clear hS1 h8 e0
      go_wp2
      go_ret
      exact ⟨rfl, HS.out⟩
end Go.Proofs.YtcjlbimmplejjaaDoor.ScFi
