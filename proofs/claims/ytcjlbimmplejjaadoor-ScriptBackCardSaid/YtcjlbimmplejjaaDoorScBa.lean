import Derived.Test.YtcjlbimmplejjaaDoorScGt
import Derived.Test.YtcjlbimmplejjaaDoorScFi
import Derived.Test.YtcjlbimmplejjaaDoorGen
import Derived.Lib.SmallJoins
namespace Go.Proofs.YtcjlbimmplejjaaDoor.ScBa
open Go Go.RowKit Go.WideShapes Go.Proofs Go.Proofs.YtcjlbimmplejjaaDoor.Sep Go.Proofs.YtcjlbimmplejjaaDoor.Reg Go.Proofs.YtcjlbimmplejjaaDoor.Frame Go.Proofs.YtcjlbimmplejjaaDoor.WdP Go.Proofs.YtcjlbimmplejjaaDoor.WdT Go.Proofs.YtcjlbimmplejjaaDoor.WdN Go.Proofs.YtcjlbimmplejjaaDoor.ScP Go.Proofs.YtcjlbimmplejjaaDoor.ScQ Go.Proofs.YtcjlbimmplejjaaDoor.ScT Go.Proofs.YtcjlbimmplejjaaDoor.ScB Go.Proofs.YtcjlbimmplejjaaDoor.ScA Go.Proofs.YtcjlbimmplejjaaDoor.ScM Go.Proofs.YtcjlbimmplejjaaDoor.ScI Go.Proofs.YtcjlbimmplejjaaDoor.ScJ Go.Proofs.YtcjlbimmplejjaaDoor.ScW Go.Proofs.YtcjlbimmplejjaaDoor.ScR Go.Proofs.YtcjlbimmplejjaaDoor.ScV Go.Proofs.YtcjlbimmplejjaaDoor.ScH Go.Proofs.YtcjlbimmplejjaaDoor.ScK Go.Proofs.YtcjlbimmplejjaaDoor.ScGt Go.Proofs.YtcjlbimmplejjaaDoor.ScFi

namespace ActC
def E (x : Ac) : List Value := aE x
def Ok (x : Ac) : Prop := (-9223372036854775808 ≤ x.c ∧ x.c ≤ 9223372036854775807) ∧ (-9223372036854775808 ≤ x.n ∧ x.n ≤ 9223372036854775807) ∧ x.s.length ≤ maxLen
theorem len (x : Ac) : (E x).length = 4 := rfl
set_option maxRecDepth 100000 in
theorem dec {H : Type} {enc : TypeId × Value → H} {w : World} {base : Nat} {spare : Nat → Bool} {held : Bool} {n : Nat} {cs : List Value} {y : DataW H × List MemPlace} {d : TypeDesc} (_ : Tryd.prog.underlying 36 = some d)
    (h : DataW.trod enc Tryd.prog w base spare held n 36 cs = some y) : ∃ x, cs = E x ∧ Ok x := by
  obtain ⟨y0, y1, y2, y3, m, -, hl, h0, h1, h2, h3⟩ := Go.Joins.trod_struct4 Tryd.underlying36 h
  rw [show Tryd.prog.cellsOf 36 = 4 by kernel_rfl] at hl
  have ci : Tryd.prog.cellsOf 3 = 1 := by kernel_rfl
  have cu : Tryd.prog.cellsOf 5 = 1 := by kernel_rfl
  have cs' : Tryd.prog.cellsOf 9 = 1 := by kernel_rfl
  match cs, hl with
  | [a, b, c, e], _ =>
    simp only [ci, cu, cs'] at h0 h1 h2 h3
    obtain ⟨d, e0, w0⟩ := int_in Tryd.underlying5 h0
    obtain ⟨k, e1, w1⟩ := int_in Tryd.underlying3 h1
    obtain ⟨o, e2, w2⟩ := int_in Tryd.underlying3 h2
    obtain ⟨t, e3, w3⟩ := string_in Tryd.underlying9 h3
    simp at e0 e1 e2 e3
    subst e0; subst e1; subst e2; subst e3
    have hd : d = (d.toNat : Int) := by
      have h : 0 ≤ d := by simp [Lit.wf] at w0; exact Int.le_trans (by decide) w0.1
      omega
    refine ⟨⟨d.toNat, k, o, t⟩, ?_, ?_, ?_, w3⟩
    · show _ = [Value.int .u8 (d.toNat : Int), .int .i64 k, .int .i64 o, .string ⟨t.toArray⟩]
      rw [← hd]
    · simp [Lit.wf] at w1; exact ⟨Int.le_trans (by decide) w1.1, Int.le_trans w1.2 (by decide)⟩
    · simp [Lit.wf] at w2; exact ⟨Int.le_trans (by decide) w2.1, Int.le_trans w2.2 (by decide)⟩
end ActC
/-- What printing comes to. -/
def BkF (L : List Ac) (p : Tx) : Prop := parseP p = (L, 0, 0) ∧ (∀ a ∈ p, okT a) ∧ p.length ≤ 65536 ∧ (L = [] ∨ ∃ q, p = q ++ [10])
set_option maxRecDepth 100000 in
set_option maxHeartbeats 16000000 in
theorem back_any (a : Option Addr) (n c : Nat) (L : List Ac) (hln : L.length = n) {W : World} (hsl : Sl W 4 (.slice a n c) n (L.flatMap ActC.E)) (hok : ∀ x ∈ L, ActC.Ok x) (hG : GlE W) :
    Calls Tryd.prog 3 #[.slice a n c] W (Law W emp) := by
  have hcap : n ≤ c ∧ c ≤ 9223372036854775807 := by obtain ⟨_, _, _, hv, h1, h2, _⟩ := hsl; cases hv; exact ⟨h1, by simpa [maxLen] using h2⟩
  have hsl : Sl W 4 (.slice a n c) n (actsV L) := hsl
  have HAw := Lib.hid (awake_any hG.1 hG.2 (St.start W))
  have HG := Lib.hid hG
  have HN := Lib.hid hln
  have HSL := Lib.hid hsl
  have HOK := Lib.hid hok
  clear hG hln hsl hok
  go_enter Tryd.func3, Tryd.ntmps3
  go_wp2_with fail
  refine HAw.out.mono ?_
  rintro e w1 ⟨rfl, hS⟩
  have HGr := Lib.hid (Great_any a n c L HN.out (sl_past HSL.out hS))
  have HS1 := Lib.hid hS
  clear hS HAw
  go_wp2_with fail
  refine HGr.out.mono ?_
  rintro e w2 ⟨b, rfl, hb, hS⟩
  have HS2 := Lib.hid (HS1.out.past hS.below)
  clear hS HGr HS1
  cases b with
  | true =>
    go_wp2
    go_ret
    exact ⟨rfl, HS2.out⟩
  | false =>
  obtain ⟨hb1, hb2⟩ := hb rfl
  have hok2 : ∀ x ∈ L, OkA x := fun x hx => ⟨(HOK.out x hx).1, (HOK.out x hx).2.1, by have := hb2 x hx; omega⟩
  have HPr := Lib.hid (Print_any (HG.out.1.st HS2.out) a n c L HN.out hok2 (sl_past HSL.out HS2.out))
  have hbl := back_law L
  obtain ⟨P, pe, hP⟩ : ∃ x y, printP L = (x, y) := ⟨_, _, rfl⟩
  have HPr := Lib.hid (HPr.out.mono fun e w h => by unfold ScV.NPst at h; rw [hP] at h; exact h)
  rw [hP] at hbl
  have HBL := Lib.hid hbl
  clear hb hb1 hb2 hok2 hP hbl HOK
  go_wp2_with fail
  refine HPr.out.mono ?_
  rintro e w3 ⟨rfl, hb⟩
  have HS3 := Lib.hid (HS2.out.past hb)
  clear hb HPr HS2
  by_cases hpe : pe = 0
  · subst hpe
    have HF : Hid (BkF L P) := Lib.hid (HBL.out.1 rfl)
    have hPl : P.length ≤ 65536 := HF.out.2.2.1
    clear HBL
    go_wp2_with fail
    go_loopw [5] (fun iv wr => ∃ i : Nat, i ≤ P.length ∧ iv = .int .i64 i ∧ St W wr emp) (fun iv _ => P.length - (intOf iv).toNat)
    case atStart => exact ⟨0, Nat.zero_le _, rfl, HS3.out⟩
    case round =>
      obtain ⟨i, hi, rfl, hS⟩ := hrel
      clear HS3
      by_cases hin : i < P.length
      · have hinI : (i : Int) < P.length := by omega
        have hsz : i < (ByteArray.mk P.toArray).size := by simpa [ByteArray.size] using hin
        have hg := get_at ⟨P.toArray⟩ i hsz
        have hmem : (ByteArray.mk P.toArray)[i]'hsz ∈ P := List.getElem_mem (l := P) hin
        have hokc := HF.out.2.1 _ hmem
        generalize hc : (ByteArray.mk P.toArray)[i]'hsz = ch at *
        clear hmem hg
        rcases hokc with rfl | ⟨h32, h126⟩
        · go_wp2_with fail
          exact ⟨⟨i + 1, hin, by go_num, hS⟩, by simp [intOf]; omega⟩
        · have h1 : ¬ (126 : Int) < ch.toNat := by omega
          have h2 : ¬ (ch.toNat : Int) < 32 := by omega
          clear h32 h126
          go_wp2_with fail
          exact ⟨⟨i + 1, hin, by go_num, hS⟩, by simp [intOf]; omega⟩
      · obtain rfl : P.length = i := by omega
        have HPa := Lib.hid (Parse_as HG.out HF.out.1 (by omega) hS)
        clear hS
        go_wp2_with fail
        refine HPa.out.mono ?_
        rintro e' w5 ⟨v5, rfl, hS⟩
        obtain ⟨a5, c5, rfl⟩ : ∃ a c, v5 = .slice a L.length c := by obtain ⟨_, a, c, hv, _⟩ := hS.rowSl; exact ⟨a, c, hv⟩
        have HLk := Lib.hid (like_any a n c L HN.out (sl_past HSL.out hS.right) a5 L.length c5 L rfl hS.rowSl)
        rw [HN.out, show decide ((L : List Ac) = L) = true from decide_eq_true rfl] at HLk
        have HS := Lib.hid hS.right
        clear hS HPa
        rw [HN.out]
        have h65 : (P.length : Int) ≤ 65536 := by omega
        by_cases hn0 : n = 0
        · subst hn0
          go_wp2_with fail
          refine HLk.out.mono ?_
          rintro e w6 ⟨rfl, hb⟩
          have HS6 := Lib.hid (HS.out.past hb)
          clear hb HLk HS
          go_wp2
          go_ret
          exact ⟨rfl, HS6.out⟩
        · have hn0I : ((n : Int) == 0) = false := by rw [beq_eq_false_iff_ne]; omega
          obtain ⟨q, hq⟩ : ∃ q, P = q ++ [10] := by
            rcases HF.out.2.2.2 with h | h
            · exact absurd (by rw [← HN.out, h]; rfl) hn0
            · exact h
          have hql : P.length = q.length + 1 := by rw [hq]; simp
          have hmI : (P.length : Int) - 1 = (q.length : Nat) := by omega
          have hsz : q.length < (ByteArray.mk P.toArray).size := by show q.length < P.toArray.size; simp; omega
          have hg : (ByteArray.mk P.toArray)[q.length]'hsz = 10 := by
            show P.toArray[q.length]'hsz = 10
            simp [hq]
          have hpos : (1 : Int) ≤ P.length := by omega
          clear hq hn0
          generalize q.length = m at *
          clear hql
          go_wp2_with fail
          refine HLk.out.mono ?_
          rintro e w6 ⟨rfl, hb⟩
          have HS6 := Lib.hid (HS.out.past hb)
          clear hb HLk HS
          go_wp2
          go_ret
          exact ⟨rfl, HS6.out⟩
  · obtain ⟨rfl, hne⟩ := HBL.out.2 hpe
    have hpI : ((pe : Int) != 0) = true := by rw [bne_iff_ne]; omega
    have hn : 0 < n := by
      have : L.length ≠ 0 := fun h => hne (List.eq_nil_of_length_eq_zero h)
      have := HN.out
      omega
    clear hpe hne HBL
    go_wp2
    go_ret
    simp only [show (0 < n) = True from eq_true hn, decide_true]
    exact ⟨rfl, HS3.out⟩
end Go.Proofs.YtcjlbimmplejjaaDoor.ScBa
