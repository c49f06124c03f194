import Derived.Test.YtcjlbimmplejjaaGreatDoorScNt
import Derived.Test.YtcjlbimmplejjaaGreatDoorScN
namespace Go.Proofs.YtcjlbimmplejjaaGreatDoor.ScBn
open Go Go.RowKit Go.Proofs Go.Proofs.YtcjlbimmplejjaaGreatDoor.Sep Go.Proofs.YtcjlbimmplejjaaGreatDoor.Reg Go.Proofs.YtcjlbimmplejjaaGreatDoor.Frame Go.Proofs.YtcjlbimmplejjaaGreatDoor.WdP Go.Proofs.YtcjlbimmplejjaaGreatDoor.WdT Go.Proofs.YtcjlbimmplejjaaGreatDoor.WdN Go.Proofs.YtcjlbimmplejjaaGreatDoor.ScP Go.Proofs.YtcjlbimmplejjaaGreatDoor.ScQ Go.Proofs.YtcjlbimmplejjaaGreatDoor.ScT Go.Proofs.YtcjlbimmplejjaaGreatDoor.ScB Go.Proofs.YtcjlbimmplejjaaGreatDoor.ScN Go.Proofs.YtcjlbimmplejjaaGreatDoor.ScA Go.Proofs.YtcjlbimmplejjaaGreatDoor.ScM Go.Proofs.YtcjlbimmplejjaaGreatDoor.ScH Go.Proofs.YtcjlbimmplejjaaGreatDoor.ScJ Go.Proofs.YtcjlbimmplejjaaGreatDoor.ScR Go.Proofs.YtcjlbimmplejjaaGreatDoor.ScK Go.Proofs.YtcjlbimmplejjaaGreatDoor.ScNt

def GlE (W : World) : Prop := Gl W ∧ Er W
theorem Parse_as {W w : World} {R : Asn} (hG : GlE W) {t : Tx} {l : List Ac} {i e : Nat} (hp : parseP t = (l, i, e)) (ht : t.length ≤ 1000000) (h : St W w R) :
    Calls Tryz.prog 9 #[.string ⟨t.toArray⟩] w fun x w' => ∃ v, x = .returned (.tuple #[v, .int .i64 (i : Nat), .int .i64 (e : Nat)]) ∧ St W w' (star (Row 34 4 v l.length (actsV l)) R) :=
  (Parse_any hG.1 hG.2 t ht h).mono fun x w' h => by unfold PPst at h; rw [hp] at h; exact h
def blk (m : Nat) (rem x : Tx) : Tx := List.replicate m 32 ++ 10 :: (List.replicate m 32 ++ (x ++ tl rem))
/-- The text with blanks more, as it is made. -/
def padW (m : Nat) (rem : Tx) : Tx → Tx → Tx → Tx
  | [], x, u => u ++ blk m rem x
  | c :: r, x, u => if c = 10 then padW m rem r [] (u ++ blk m rem x ++ [10]) else padW m rem r (x ++ [c]) u
def onto (x : Tx) : List Tx → List Tx
  | [] => []
  | y :: ys => (x ++ y) :: ys
theorem two_ne (m : Nat) (rem y : Tx) (ys : List Tx) : two m rem (y :: ys) ≠ [] := by simp [two]
theorem padW_eq (m : Nat) (rem : Tx) : ∀ (r x u : Tx), padW m rem r x u = u ++ joinL (two m rem (onto x (lns r)))
  | [], x, u => by
    simp [padW, lns, onto, two, joinL, blk]
  | c :: r, x, u => by
    obtain ⟨y, ys, hy⟩ := lns_ne r
    unfold padW
    by_cases hc : c = 10
    · subst hc
      rw [if_pos rfl, padW_eq m rem r, lns_end, hy]
      simp only [onto, List.nil_append, List.append_nil]
      rw [two_cons m rem x, joinL_cons _ (by simp), joinL_cons _ (two_ne m rem y ys)]
      simp [blk]
    · rw [if_neg hc, padW_eq m rem r, lns_cons c r y ys hc hy, hy]
      simp [onto]
theorem padW_all (m : Nat) (rem t : Tx) : padW m rem t [] [] = joinL (two m rem (lns t)) := by
  obtain ⟨y, ys, hy⟩ := lns_ne t
  rw [padW_eq, hy]
  simp [onto]
theorem padW_lns (m : Nat) (rem t : Tx) (hr : ∀ a ∈ rem, a ≠ 10) : lns (padW m rem t [] []) = two m rem (lns t) := by
  obtain ⟨y, ys, hy⟩ := lns_ne t
  rw [padW_all]
  refine lns_joinL (by rw [hy]; exact two_ne m rem y ys) fun x hx a ha => ?_
  obtain ⟨z, hz, hx⟩ := List.mem_flatMap.1 hx
  simp only [List.mem_cons, List.not_mem_nil, or_false] at hx
  rcases hx with rfl | rfl
  · rw [(List.mem_replicate.1 ha).2]; decide
  · rcases List.mem_append.1 ha with h | h
    · rw [(List.mem_replicate.1 h).2]; decide
    · rcases List.mem_append.1 h with h | h
      · exact lns_mem t z hz a h
      · simp only [tl, List.mem_cons] at h
        rcases h with rfl | rfl | h
        · decide
        · decide
        · exact hr a h
def QB (m : Nat) (rem t F : Tx) (i at' : Nat) (U : Tx) : Prop := (i ≤ t.length → padW m rem (t.drop i) ((t.drop at').take (i - at')) U = F) ∧ (t.length < i → U = F)
theorem pad_of (a : Int) (h : (Lit.int .u8 a).wf = true) : ∃ m : Nat, m ≤ 5 ∧ a.tmod 6 = m := by
  have h0 : 0 ≤ a := by simp [Lit.wf] at h; exact Int.le_trans (by decide) h.1
  refine ⟨(a.tmod 6).toNat, ?_, ?_⟩ <;> rw [Int.tmod_eq_emod_of_nonneg h0] <;> omega
theorem rep_pad (m : Nat) : Lib.repeatL [32] m = List.replicate m 32 := by
  have := Lib.repeatL_replicate 32 1 m
  simpa using this

/-- The two ways a text with blanks more may answer. -/
def BLaw (t : Tx) (l l' : List Ac) (line e line' e' : Nat) : Prop := (e = e' ∧ line' = 2 * line ∧ l = l') ∨ (e = 8 ∧ (∃ j x, line = j + 1 ∧ (lns t)[j]? = some x ∧ 34 ∈ x) ∧ (e' ≠ 8 ∨ 2 * line < line'))
theorem BLaw.mark {t : Tx} {line : Nat} (h : ∃ j x, line = j + 1 ∧ (lns t)[j]? = some x ∧ 34 ∈ x) : 0 < line ∧ Lib.contains (nthL t line) [34] = true := by
  obtain ⟨j, x, rfl, hx, h34⟩ := h
  refine ⟨by omega, contains_mem.2 ?_⟩
  unfold nthL
  rw [show j + 1 - 1 = j from by omega, hx]
  exact h34
set_option maxRecDepth 100000 in
set_option maxHeartbeats 16000000 in
theorem blanks_any (t : Tx) (_ : (⟨t.toArray⟩ : ByteArray).size ≤ maxLen) (a : Int) (ha : (Lit.int .u8 a).wf = true) (rem : Tx) (_ : (⟨rem.toArray⟩ : ByteArray).size ≤ maxLen) {W : World} (hG : GlE W) :
    Calls Tryz.prog 7 #[.string ⟨t.toArray⟩, .int .u8 a, .string ⟨rem.toArray⟩] W (Law W emp) := by
  have HAw := Lib.hid (awake_any hG.1 hG.2 (St.start W))
  have HG := Lib.hid hG
  clear hG
  by_cases h1 : 2000 < t.length
  · have h1I : (2000 : Int) < t.length := by omega
    go_enter Tryz.func7, Tryz.ntmps7
    go_wp2_with fail
    refine HAw.out.mono ?_
    rintro e w1 ⟨rfl, hS⟩
    have HS := Lib.hid hS
    clear hS
    go_wp2
    go_ret
    exact ⟨rfl, HS.out⟩
  have h1I : ¬ (2000 : Int) < t.length := by omega
  by_cases h2 : 40 < rem.length
  · have h2I : (40 : Int) < rem.length := by omega
    go_enter Tryz.func7, Tryz.ntmps7
    go_wp2_with fail
    refine HAw.out.mono ?_
    rintro e w1 ⟨rfl, hS⟩
    have HS := Lib.hid hS
    clear hS
    go_wp2
    go_ret
    exact ⟨rfl, HS.out⟩
  have h2I : ¬ (40 : Int) < rem.length := by omega
  go_enter Tryz.func7, Tryz.ntmps7
  go_wp2_with fail
  refine HAw.out.mono ?_
  rintro e w1 ⟨rfl, hS⟩
  obtain ⟨mx, hmx⟩ := (HG.out.1.st hS).1
  have HCo := Lib.hid (Tryz.strings_Contains ⟨rem.toArray⟩ ⟨#[10]⟩ mx w1 (by simp [ByteArray.size]; omega) hmx)
  have HS1 := Lib.hid hS
  clear hS hmx HAw
  go_wp2_with fail
  refine HCo.out.mono ?_
  rintro e w2 ⟨rfl, rfl⟩
  clear HCo
  by_cases hco : Lib.contains rem [10] = true
  · rw [show Lib.contains (ByteArray.mk rem.toArray).data.toList (ByteArray.mk #[10]).data.toList = true from hco]
    go_wp2
    go_ret
    exact ⟨rfl, HS1.out⟩
  rw [show Lib.contains (ByteArray.mk rem.toArray).data.toList (ByteArray.mk #[10]).data.toList = false from by simpa using hco]
  have hr10 : ∀ b ∈ rem, b ≠ 10 := fun b hb e => hco (contains_mem.2 (e ▸ hb))
  obtain ⟨m, hm5, hmI⟩ := pad_of a ha
  have hl := padW_lns m rem t hr10
  obtain ⟨Fu, hFu⟩ : ∃ F, padW m rem t [] [] = F := ⟨_, rfl⟩
  rw [hFu] at hl
  have HL := Lib.hid hl
  have HFu := Lib.hid hFu
  have HRe := Lib.hid (Tryz.strings_Repeat ⟨#[32]⟩ m w2 (by omega) (by simp [ByteArray.size]; omega))
  rw [show (ByteArray.mk #[32]).data.toList = [32] from rfl, rep_pad] at HRe
  have hpl : (List.replicate m (32 : UInt8)).length = m := List.length_replicate
  obtain ⟨pad, hpad⟩ : ∃ z, List.replicate m (32 : UInt8) = z := ⟨_, rfl⟩
  rw [hpad] at HRe hpl
  have HPAD := Lib.hid hpad
  clear hco hr10 hl hFu hpad
  go_wp2_with fail
  refine HRe.out.mono ?_
  rintro e w3 ⟨rfl, hb⟩
  have HS3 := Lib.hid (HS1.out.past hb)
  clear hb HS1 HRe
  go_wp2_with fail
  go_loopw [8, 9, 10] (fun uv av iv wr => ∃ (i at' : Nat) (U : Tx), i ≤ t.length + 1 ∧ at' ≤ i ∧ iv = .int .i64 i ∧ av = .int .i64 at' ∧ uv = .string ⟨U.toArray⟩ ∧ U.length ≤ 60 * at' ∧ Hid (QB m rem t Fu i at' U) ∧ St W wr emp) (fun _ _ iv _ => t.length + 1 - (intOf iv).toNat)
  case atStart => exact ⟨0, 0, [], Nat.zero_le _, Nat.le_refl _, rfl, rfl, rfl, by simp, Lib.hid ⟨fun _ => by simpa using HFu.out, fun h => by omega⟩, HS3.out⟩
  case round =>
    obtain ⟨i, at', U, hi, hat, rfl, rfl, rfl, hU, HC, hS⟩ := hrel
    clear HS3 HFu
    by_cases hin : i ≤ t.length
    · have hinI : (i : Int) ≤ t.length := by omega
      obtain ⟨x, hx⟩ : ∃ x, (t.drop at').take (i - at') = x := ⟨_, rfl⟩
      have hxl : x.length ≤ i - at' := by rw [← hx, List.length_take]; omega
      by_cases hend : i = t.length
      · subst hend
        have hendI : ((t.length : Int) == (t.length : Nat)) = true := by rw [beq_iff_eq]
        have hltI : ¬ (t.length : Int) < t.length := Int.lt_irrefl _
        have hc := HC.out.1 hin
        rw [hx, List.drop_length] at hc
        simp only [padW] at hc
        have hsl := run_str_lh (P := Tryz.prog) 9 Tryz.underlying9 t (at' : Int) (t.length : Int) at' t.length rfl rfl (by omega) (by omega)
        rw [hx] at hsl
        have hcat : U ++ blk m rem x = U ++ pad ++ [10] ++ pad ++ x ++ [32, 35] ++ rem := by simp [blk, tl, HPAD.out]
        have q1 := run_str_add (P := Tryz.prog) U pad (by omega)
        have l1 : (U ++ pad).length ≤ 60 * at' + 5 := by simp; omega
        generalize U ++ pad = T1 at *
        have q2 := run_str_add (P := Tryz.prog) T1 [10] (by simp; omega)
        have l2 : (T1 ++ [10]).length ≤ 60 * at' + 6 := by simp; omega
        generalize T1 ++ [10] = T2 at *
        have q3 := run_str_add (P := Tryz.prog) T2 pad (by omega)
        have l3 : (T2 ++ pad).length ≤ 60 * at' + 11 := by simp; omega
        generalize T2 ++ pad = T3 at *
        have q4 := run_str_add (P := Tryz.prog) T3 x (by omega)
        have l4 : (T3 ++ x).length ≤ 60 * at' + 11 + (t.length - at') := by simp; omega
        generalize T3 ++ x = T4 at *
        have q5 := run_str_add (P := Tryz.prog) T4 [32, 35] (by simp; omega)
        have l5 : (T4 ++ [32, 35]).length ≤ 60 * at' + 13 + (t.length - at') := by simp; omega
        generalize T4 ++ [32, 35] = T5 at *
        have q6 := run_str_add (P := Tryz.prog) T5 rem (by omega)
        have l6 : (T5 ++ rem).length ≤ 60 * at' + 53 + (t.length - at') := by simp; omega
        generalize T5 ++ rem = T6 at *
        rw [hcat] at hc
        have HCN : Hid (QB m rem t Fu (t.length + 1) (t.length + 1) T6) := Lib.hid ⟨fun h => by omega, fun _ => hc⟩
        clear hc hcat hx
        go_wp2_with fail
        exact ⟨⟨t.length + 1, t.length + 1, T6, by omega, Nat.le_refl _, by go_num, by go_num, rfl, by omega, HCN, hS⟩, by simp [intOf]⟩
      · have hlt : i < t.length := by omega
        have hendI : ((i : Int) == (t.length : Nat)) = false := by rw [beq_eq_false_iff_ne]; omega
        have hltI : (i : Int) < t.length := by omega
        have hsz : i < (ByteArray.mk t.toArray).size := by simpa [ByteArray.size] using hlt
        have hdr : t.drop i = (ByteArray.mk t.toArray)[i]'hsz :: t.drop (i + 1) := by
          rw [List.drop_eq_getElem_cons hlt]; rfl
        have hx2 : (t.drop at').take (i + 1 - at') = x ++ [(ByteArray.mk t.toArray)[i]'hsz] := by
          rw [← hx, show i + 1 - at' = (i - at') + 1 from by omega, List.take_add_one, List.getElem?_drop, show at' + (i - at') = i from by omega, List.getElem?_eq_getElem hlt]
          rfl
        have hc' := HC.out.1 hin
        rw [hx, hdr] at hc'
        generalize hc : (ByteArray.mk t.toArray)[i]'hsz = c at *
        simp only [padW] at hc'
        by_cases hc10 : c = 10
        · subst hc10
          rw [if_pos rfl] at hc'

          have hsl := run_str_lh (P := Tryz.prog) 9 Tryz.underlying9 t (at' : Int) (i : Int) at' i rfl rfl (by omega) (by omega)
          rw [hx] at hsl
          have hcat : U ++ blk m rem x = U ++ pad ++ [10] ++ pad ++ x ++ [32, 35] ++ rem := by simp [blk, tl, HPAD.out]
          have q1 := run_str_add (P := Tryz.prog) U pad (by omega)
          have l1 : (U ++ pad).length ≤ 60 * at' + 5 := by simp; omega
          generalize U ++ pad = T1 at *
          have q2 := run_str_add (P := Tryz.prog) T1 [10] (by simp; omega)
          have l2 : (T1 ++ [10]).length ≤ 60 * at' + 6 := by simp; omega
          generalize T1 ++ [10] = T2 at *
          have q3 := run_str_add (P := Tryz.prog) T2 pad (by omega)
          have l3 : (T2 ++ pad).length ≤ 60 * at' + 11 := by simp; omega
          generalize T2 ++ pad = T3 at *
          have q4 := run_str_add (P := Tryz.prog) T3 x (by omega)
          have l4 : (T3 ++ x).length ≤ 60 * at' + 11 + (i - at') := by simp; omega
          generalize T3 ++ x = T4 at *
          have q5 := run_str_add (P := Tryz.prog) T4 [32, 35] (by simp; omega)
          have l5 : (T4 ++ [32, 35]).length ≤ 60 * at' + 13 + (i - at') := by simp; omega
          generalize T4 ++ [32, 35] = T5 at *
          have q6 := run_str_add (P := Tryz.prog) T5 rem (by omega)
          have l6 : (T5 ++ rem).length ≤ 60 * at' + 53 + (i - at') := by simp; omega
          generalize T5 ++ rem = T6 at *
          have q7 := run_str_add (P := Tryz.prog) T6 [10] (by simp; omega)
          have l7 : (T6 ++ [10]).length ≤ 60 * at' + 54 + (i - at') := by simp; omega
          obtain ⟨T7, hT7⟩ : ∃ z, T6 ++ [10] = z := ⟨_, rfl⟩
          rw [hT7] at q7 l7
          rw [hcat, hT7] at hc'
          have HCN : Hid (QB m rem t Fu (i + 1) (i + 1) T7) := Lib.hid ⟨fun h => by rw [Nat.sub_self, List.take_zero]; exact hc', fun h => by omega⟩
          clear hc' hcat hx hx2 hdr hT7
          go_wp2_with fail
          exact ⟨⟨i + 1, i + 1, T7, by omega, Nat.le_refl _, by go_num, by go_num, rfl, by omega, HCN, hS⟩, by simp [intOf]; omega⟩
        · have hne : ((c.toNat : Int) == 10) = false := by
            rw [beq_eq_false_iff_ne]
            intro e
            exact hc10 (UInt8.toNat_inj.1 (by simpa using (by omega : c.toNat = 10)))
          rw [if_neg hc10] at hc'
          have HCN : Hid (QB m rem t Fu (i + 1) at' U) := Lib.hid ⟨fun h => by rw [hx2]; exact hc', fun h => by omega⟩
          clear hc' hx hx2 hdr hc10
          go_wp2_with fail
          exact ⟨⟨i + 1, at', U, by omega, by omega, by go_num, rfl, rfl, hU, HCN, hS⟩, by simp [intOf]; omega⟩
    · have hinI : ¬ (i : Int) ≤ t.length := by omega
      obtain rfl := HC.out.2 (by omega)
      have hU2 : U.length ≤ 60 * 2001 := by omega
      clear HC
      by_cases hbig : 65536 < U.length
      · have hbigI : (65536 : Int) < U.length := by omega
        have HS := Lib.hid hS
        clear hS
        go_wp2
        go_ret
        exact ⟨rfl, HS.out⟩
      · have hbigI : ¬ (65536 : Int) < U.length := by omega
        obtain ⟨l, line, e, hp⟩ : ∃ l i e, parseP t = (l, i, e) := ⟨_, _, _, rfl⟩
        obtain ⟨l', line', e', hq⟩ : ∃ l i e, parseP U = (l, i, e) := ⟨_, _, _, rfl⟩
        have HB : Hid (BLaw t l l' line e line' e') := Lib.hid (blanks_law (by omega) (by omega) HL.out hp hq)
        have hl1 := parse_line hp
        have hl2 := parse_line hq
        have HQ := Lib.hid hq
        have H1 := Lib.hid (Parse_as HG.out hp (by omega) hS)
        clear hp hq hS HL
        go_wp2_with fail
        refine H1.out.mono ?_
        rintro e1 w5 ⟨v5, rfl, hS⟩
        have H2 := Lib.hid (Parse_as HG.out HQ.out (by omega) hS)
        clear hS H1
        go_wp2_with fail
        refine H2.out.mono ?_
        rintro e1 w6 ⟨v6, rfl, hS⟩
        obtain ⟨a5, c5, rfl⟩ : ∃ a c, v5 = .slice a l.length c := by obtain ⟨_, a, c, hv, _⟩ := hS.right.rowSl; exact ⟨a, c, hv⟩
        obtain ⟨a6, c6, rfl⟩ : ∃ a c, v6 = .slice a l'.length c := by obtain ⟨_, a, c, hv, _⟩ := hS.rowSl; exact ⟨a, c, hv⟩
        have HLk := Lib.hid (like_any a5 l.length c5 l rfl hS.right.rowSl a6 l'.length c6 l' rfl hS.rowSl)
        have HS := Lib.hid hS.right.right
        have hBo := HB.out
        unfold BLaw at hBo
        obtain ⟨d, hd⟩ : ∃ d, 2 * line = d := ⟨_, rfl⟩
        rw [hd] at hBo
        have h2I : (2 : Int) * (line : Int) = (d : Nat) := by omega
        clear hS H2 HQ HB
        rcases hBo with ⟨rfl, rfl, rfl⟩ | ⟨rfl, hmk, hor⟩
        · rw [show decide (l = l) = true from decide_eq_true rfl] at HLk
          have e1I : ((e : Int) == e) = true := by rw [beq_iff_eq]
          have e2I : ((line' : Int) == (line' : Nat)) = true := by rw [beq_iff_eq]
          clear hd
          go_wp2_with fail
          refine HLk.out.mono ?_
          rintro e6 w7 ⟨rfl, hb⟩
          have HS7 := Lib.hid (HS.out.past hb)
          clear hb HLk HS
          go_wp2
          go_ret
          exact ⟨rfl, HS7.out⟩
        · obtain ⟨hl0, hct⟩ := BLaw.mark hmk
          have HCT := Lib.hid hct
          have HNt := Lib.hid (nth_any t line (by omega) hl0 (by omega) HS.out)
          obtain ⟨mx, hmx⟩ := (HG.out.1.st HS.out).1
          have HCo := Lib.hid (Tryz.strings_Contains ⟨(nthL t line).toArray⟩ ⟨#[34]⟩ mx w6 (by have := nthL_len t line; simp [ByteArray.size]; omega) hmx)
          rw [show Lib.contains (ByteArray.mk (nthL t line).toArray).data.toList (ByteArray.mk #[34]).data.toList = true from HCT.out] at HCo
          clear hmk hct hmx hd
          by_cases he8 : e' = 8
          · subst he8
            have hlt : d < line' := by rcases hor with h | h; exact absurd rfl h; exact h
            have hltI : ((d : Nat) : Int) < (line' : Int) := by omega
            have hneI : ((line' : Int) == ((d : Nat) : Int)) = false := by rw [beq_eq_false_iff_ne]; omega
            clear hor
            go_wp2_with fail
            refine HNt.out.mono ?_
            rintro e6 w7 ⟨rfl, rfl⟩
            go_wp2_with fail
            refine HCo.out.mono ?_
            rintro e6 w8 ⟨rfl, rfl⟩
            clear HNt HCo
            go_wp2
            go_ret
            exact ⟨rfl, HS.out⟩
          · have he8I : ((8 : Int) == (e' : Int)) = false := by rw [beq_eq_false_iff_ne]; omega
            have he8J : ((e' : Int) != 8) = true := by rw [bne_iff_ne]; omega
            clear hor he8
            go_wp2_with fail
            refine HNt.out.mono ?_
            rintro e6 w7 ⟨rfl, rfl⟩
            go_wp2_with fail
            refine HCo.out.mono ?_
            rintro e6 w8 ⟨rfl, rfl⟩
            clear HNt HCo
            go_wp2
            go_ret
            exact ⟨rfl, HS.out⟩
end Go.Proofs.YtcjlbimmplejjaaGreatDoor.ScBn
