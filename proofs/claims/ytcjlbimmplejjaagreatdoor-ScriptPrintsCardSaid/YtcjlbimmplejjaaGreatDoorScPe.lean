import Derived.Test.YtcjlbimmplejjaaGreatDoorScPd
import Derived.Test.YtcjlbimmplejjaaGreatDoorScGt
import Derived.Test.YtcjlbimmplejjaaGreatDoorHeldG
import Derived.Test.YtcjlbimmplejjaaGreatDoorGen
import Derived.Lib.SmallJoins
namespace Go.Proofs.YtcjlbimmplejjaaGreatDoor.ScPe
open Go Go.RowKit Go.WideShapes Go.Proofs Go.Proofs.YtcjlbimmplejjaaGreatDoor.Sep Go.Proofs.YtcjlbimmplejjaaGreatDoor.Reg Go.Proofs.YtcjlbimmplejjaaGreatDoor.Fork Go.Proofs.YtcjlbimmplejjaaGreatDoor.Held Go.Proofs.YtcjlbimmplejjaaGreatDoor.HeldG Go.Proofs.YtcjlbimmplejjaaGreatDoor.Frame Go.Proofs.YtcjlbimmplejjaaGreatDoor.WdP Go.Proofs.YtcjlbimmplejjaaGreatDoor.WdT Go.Proofs.YtcjlbimmplejjaaGreatDoor.WdN Go.Proofs.YtcjlbimmplejjaaGreatDoor.ScP Go.Proofs.YtcjlbimmplejjaaGreatDoor.ScB Go.Proofs.YtcjlbimmplejjaaGreatDoor.ScA Go.Proofs.YtcjlbimmplejjaaGreatDoor.ScI Go.Proofs.YtcjlbimmplejjaaGreatDoor.ScJ Go.Proofs.YtcjlbimmplejjaaGreatDoor.ScM Go.Proofs.YtcjlbimmplejjaaGreatDoor.ScW Go.Proofs.YtcjlbimmplejjaaGreatDoor.ScNu Go.Proofs.YtcjlbimmplejjaaGreatDoor.ScR Go.Proofs.YtcjlbimmplejjaaGreatDoor.ScO Go.Proofs.YtcjlbimmplejjaaGreatDoor.ScV Go.Proofs.YtcjlbimmplejjaaGreatDoor.ScK Go.Proofs.YtcjlbimmplejjaaGreatDoor.ScGt Go.Proofs.YtcjlbimmplejjaaGreatDoor.ScPa Go.Proofs.YtcjlbimmplejjaaGreatDoor.ScPb Go.Proofs.YtcjlbimmplejjaaGreatDoor.ScPc Go.Proofs.YtcjlbimmplejjaaGreatDoor.ScPd

def GlE (W : World) : Prop := Gl W ∧ Er W
namespace ActC
def E (x : Ac) : List Value := aE x
def Ok (x : Ac) : Prop := (-9223372036854775808 ≤ x.c ∧ x.c ≤ 9223372036854775807) ∧ (-9223372036854775808 ≤ x.n ∧ x.n ≤ 9223372036854775807) ∧ x.s.length ≤ maxLen
theorem len (x : Ac) : (E x).length = 4 := rfl
set_option maxRecDepth 100000 in
theorem dec {H : Type} {enc : TypeId × Value → H} {w : World} {base : Nat} {spare : Nat → Bool} {held : Bool} {n : Nat} {cs : List Value} {y : DataW H × List MemPlace} {d : TypeDesc} (_ : Tryz.prog.underlying 34 = some d)
    (h : DataW.trod enc Tryz.prog w base spare held n 34 cs = some y) : ∃ x, cs = E x ∧ Ok x := by
  obtain ⟨y0, y1, y2, y3, m, -, hl, h0, h1, h2, h3⟩ := Go.Joins.trod_struct4 Tryz.underlying34 h
  rw [show Tryz.prog.cellsOf 34 = 4 by kernel_rfl] at hl
  have ci : Tryz.prog.cellsOf 3 = 1 := by kernel_rfl
  have cu : Tryz.prog.cellsOf 5 = 1 := by kernel_rfl
  have cs' : Tryz.prog.cellsOf 9 = 1 := by kernel_rfl
  match cs, hl with
  | [a, b, c, e], _ =>
    simp only [ci, cu, cs'] at h0 h1 h2 h3
    obtain ⟨d, e0, w0⟩ := int_in Tryz.underlying5 h0
    obtain ⟨k, e1, w1⟩ := int_in Tryz.underlying3 h1
    obtain ⟨o, e2, w2⟩ := int_in Tryz.underlying3 h2
    obtain ⟨t, e3, w3⟩ := string_in Tryz.underlying9 h3
    simp at e0 e1 e2 e3
    subst e0; subst e1; subst e2; subst e3
    have hd : d = (d.toNat : Int) := by
      have h : 0 ≤ d := by simp [Lit.wf] at w0; exact Int.le_trans (by decide) w0.1
      omega
    refine ⟨⟨d.toNat, k, o, t⟩, ?_, ?_, ?_, w3⟩
    · show _ = [Value.int .u8 (d.toNat : Int), .int .i64 k, .int .i64 o, .string ⟨t.toArray⟩]
      rw [← hd]
    · simp [Lit.wf] at w1; exact ⟨Int.le_trans (by decide) w1.1, Int.le_trans w1.2 (by decide)⟩
    · simp [Lit.wf] at w2; exact ⟨Int.le_trans (by decide) w2.1, Int.le_trans w2.2 (by decide)⟩
end ActC

def tr8 : Tr := .plain 0 (.plain 1 (.plain 2 (.held 3 (.plain 5 (.plain 6 (.plain 7 (.held 8 (.one 4 (.one 9 (.plain 10 (.plain 11 (.plain 12 (.plain 13 (.plain 14 (.plain 15 (.held 16 (.plain 18 (.plain 19 (.plain 20 (.plain 21 (.held 22 (.one 17 (.one 23 (.plain 24 (.plain 25 .done)))))))))))))))))))))))))
set_option maxRecDepth 100000 in
set_option maxHeartbeats 16000000 in
theorem prints_any (a : Option Addr) (n c : Nat) (L : List Ac) (hln : L.length = n) {W : World} (hsl : Sl W 4 (.slice a n c) n (L.flatMap ActC.E)) (hok : ∀ x ∈ L, ActC.Ok x) (hG : GlE W) :
    Calls Tryz.prog 4 #[.slice a n c] W (Law W emp) := by
  have hcap : n ≤ c ∧ c ≤ 9223372036854775807 := by obtain ⟨_, _, _, hv, h1, h2, _⟩ := hsl; cases hv; exact ⟨h1, by simpa [maxLen] using h2⟩
  have hsl : Sl W 4 (.slice a n c) n (actsV L) := hsl
  have HAw := Lib.hid (awake_any hG.1 hG.2 (St.start W))
  have HG := Lib.hid hG
  have HN := Lib.hid hln
  have HSL := Lib.hid hsl
  have HOK := Lib.hid hok
  clear hG hln hsl hok
  go_enter Tryz.func4, Tryz.ntmps4
  go_wp2_with fail
  refine HAw.out.mono ?_
  rintro e w1 ⟨rfl, hS⟩
  have HGr := Lib.hid (Great_any a n c L HN.out (sl_past HSL.out hS))
  have HS1 := Lib.hid hS
  clear hS HAw
  go_wp2_with fail
  refine HGr.out.mono ?_
  rintro e w2 ⟨b, rfl, hb, hS⟩
  have HS2 := Lib.hid (HS1.out.past hS.below)
  clear hS HGr HS1
  cases b with
  | true =>
    go_wp2
    go_ret
    exact ⟨rfl, HS2.out⟩
  | false =>
  obtain ⟨hb1, hb2⟩ := hb rfl
  have HOA : Hid (∀ x ∈ L, OkA x) := Lib.hid fun x hx => ⟨(HOK.out x hx).1, (HOK.out x hx).2.1, by have := hb2 x hx; omega⟩
  have hn4 : n ≤ 4200 := by rw [← HN.out]; exact hb1
  clear hb hb1 hb2 HOK
  go_wp2_with fail
  go_loopw [3] (fun iv wr => ∃ i : Nat, i ≤ n ∧ i ≤ 60 ∧ iv = .int .i64 i ∧ St W wr emp) (fun iv _ => n - (intOf iv).toNat)
  case atStart => exact ⟨0, Nat.zero_le _, by omega, rfl, HS2.out⟩
  case round =>
    obtain ⟨i, hi, hi60, rfl, hS⟩ := hrel
    clear HS2
    by_cases hin : i < n ∧ i < 60
    · obtain ⟨hin1, hin2⟩ := hin
      have hinI : (i : Int) < n := by omega
      have hinJ : (i : Int) < 60 := by omega
      obtain ⟨x, hx⟩ : ∃ x, L[i]? = some x := ⟨_, List.getElem?_eq_getElem (by rw [HN.out]; exact hin1)⟩
      obtain ⟨ab, ao, rfl, -, -⟩ := act_at (sl_past HSL.out hS) hx
      have hox := HOA.out x (List.mem_of_getElem? hx)
      have hxl : x.s.length ≤ 1000000 := hox.2.2
      have HOX := Lib.hid hox
      have HC : Hid (∀ w A, St W w A → ActAt ab (ao + i * 4) x w) := Lib.hid fun w A h => by
        obtain ⟨_, _, he, h2, -⟩ := act_at (sl_past HSL.out h) hx
        cases he
        exact h2
      clear hx hox
      go_upto_region 8 with fail
      have hd := hS.drew
      clear hS
      refine wp_region_heldG (ActAt ab (ao + i * 4) x) [] tr8 (by kernel_rfl) (by kernel_rfl) (HC.out _ _ hd) ?_
      generalize wr.drew = w4 at *
      unfold tr8
      refine trG_plain (.slice (some ⟨ab, ao, none⟩) n c) rfl ?_ (by simp only [nthOp, Act.put, List.setIfInBounds_toArray, List.set_cons_succ, List.set_cons_zero]; rfl) ?_
      · exact fun _ => rfl
      refine trG_plain (.int .i64 (i : Nat)) rfl ?_ (by simp only [nthOp, Act.put, List.setIfInBounds_toArray, List.set_cons_succ, List.set_cons_zero]; rfl) ?_
      · exact fun _ => rfl
      refine trG_plain (.pointer (some ⟨ab, ao + i * 4, none⟩)) rfl ?_ (by simp only [nthOp, Act.put, List.setIfInBounds_toArray, List.set_cons_succ, List.set_cons_zero]; rfl) ?_
      · (intro w'; simp only [nthOp]; go_simp)
      refine trG_held (.agg #[.int .u8 (x.k : Nat), .int .i64 x.c, .int .i64 x.n, .string ⟨x.s.toArray⟩]) rfl ?_ (by simp only [nthOp, Act.put, List.setIfInBounds_toArray, List.set_cons_succ, List.set_cons_zero]; rfl) ?_
      · (rintro w' ⟨hc0, hc1, hc2, hc3⟩; simp only [nthOp]; go_simp)
      refine trG_plain (.slice (some ⟨ab, ao, none⟩) n c) rfl ?_ (by simp only [nthOp, Act.put, List.setIfInBounds_toArray, List.set_cons_succ, List.set_cons_zero]; rfl) ?_
      · exact fun _ => rfl
      refine trG_plain (.int .i64 (i : Nat)) rfl ?_ (by simp only [nthOp, Act.put, List.setIfInBounds_toArray, List.set_cons_succ, List.set_cons_zero]; rfl) ?_
      · exact fun _ => rfl
      refine trG_plain (.pointer (some ⟨ab, ao + i * 4, none⟩)) rfl ?_ (by simp only [nthOp, Act.put, List.setIfInBounds_toArray, List.set_cons_succ, List.set_cons_zero]; rfl) ?_
      · (intro w'; simp only [nthOp]; go_simp)
      refine trG_held (.agg #[.int .u8 (x.k : Nat), .int .i64 x.c, .int .i64 x.n, .string ⟨x.s.toArray⟩]) rfl ?_ (by simp only [nthOp, Act.put, List.setIfInBounds_toArray, List.set_cons_succ, List.set_cons_zero]; rfl) ?_
      · (rintro w' ⟨hc0, hc1, hc2, hc3⟩; simp only [nthOp]; go_simp)
      obtain ⟨b, hb⟩ : ∃ b, rightA x = b := ⟨_, rfl⟩
      have HB := Lib.hid hb
      clear hb
      have HCall := Lib.hid (ScO.Right_any HG.out.1 x HOX.out hd)
      rw [HB.out] at HCall
      clear hd
      refine trG_one ?_
      simp only [nthOp]
      go_wp2_with fail
      refine HCall.out.mono ?_
      rintro e w5 ⟨rfl, hd⟩
      clear HCall
      go_wp2_with fail
      simp only [Reg.Next]
      refine ⟨fun _ => HC.out _ _ hd, ?_⟩
      have HCall := Lib.hid (rRight_any x hd)
      rw [HB.out] at HCall
      clear hd
      refine trG_one ?_
      simp only [nthOp]
      go_wp2_with fail
      refine HCall.out.mono ?_
      rintro e w6 ⟨rfl, hd⟩
      clear HCall
      go_wp2_with fail
      simp only [Reg.Next]
      refine ⟨fun _ => HC.out _ _ hd, ?_⟩
      refine trG_plain (.bool false) rfl ?_ (by simp only [nthOp, Act.put, List.setIfInBounds_toArray, List.set_cons_succ, List.set_cons_zero]; rfl) ?_
      · (intro w'; simp only [nthOp]; cases b <;> go_simp)
      refine trG_plain (.bool false) rfl ?_ (by simp only [nthOp, Act.put, List.setIfInBounds_toArray, List.set_cons_succ, List.set_cons_zero]; rfl) ?_
      · exact fun _ => rfl
      refine trG_plain (.slice (some ⟨ab, ao, none⟩) n c) rfl ?_ (by simp only [nthOp, Act.put, List.setIfInBounds_toArray, List.set_cons_succ, List.set_cons_zero]; rfl) ?_
      · exact fun _ => rfl
      refine trG_plain (.int .i64 (i : Nat)) rfl ?_ (by simp only [nthOp, Act.put, List.setIfInBounds_toArray, List.set_cons_succ, List.set_cons_zero]; rfl) ?_
      · exact fun _ => rfl
      refine trG_plain (.pointer (some ⟨ab, ao + i * 4, none⟩)) rfl ?_ (by simp only [nthOp, Act.put, List.setIfInBounds_toArray, List.set_cons_succ, List.set_cons_zero]; rfl) ?_
      · (intro w'; simp only [nthOp]; go_simp)
      refine trG_plain (.pointer (some ⟨ab, ao + i * 4 + 3, none⟩)) rfl ?_ (by simp only [nthOp, Act.put, List.setIfInBounds_toArray, List.set_cons_succ, List.set_cons_zero]; rfl) ?_
      · (intro w'; simp only [nthOp]; go_simp)
      refine trG_held (.string ⟨x.s.toArray⟩) rfl ?_ (by simp only [nthOp, Act.put, List.setIfInBounds_toArray, List.set_cons_succ, List.set_cons_zero]; rfl) ?_
      · (rintro w' ⟨hc0, hc1, hc2, hc3⟩; simp only [nthOp]; go_simp)
      refine trG_plain (.slice (some ⟨ab, ao, none⟩) n c) rfl ?_ (by simp only [nthOp, Act.put, List.setIfInBounds_toArray, List.set_cons_succ, List.set_cons_zero]; rfl) ?_
      · exact fun _ => rfl
      refine trG_plain (.int .i64 (i : Nat)) rfl ?_ (by simp only [nthOp, Act.put, List.setIfInBounds_toArray, List.set_cons_succ, List.set_cons_zero]; rfl) ?_
      · exact fun _ => rfl
      refine trG_plain (.pointer (some ⟨ab, ao + i * 4, none⟩)) rfl ?_ (by simp only [nthOp, Act.put, List.setIfInBounds_toArray, List.set_cons_succ, List.set_cons_zero]; rfl) ?_
      · (intro w'; simp only [nthOp]; go_simp)
      refine trG_plain (.pointer (some ⟨ab, ao + i * 4 + 3, none⟩)) rfl ?_ (by simp only [nthOp, Act.put, List.setIfInBounds_toArray, List.set_cons_succ, List.set_cons_zero]; rfl) ?_
      · (intro w'; simp only [nthOp]; go_simp)
      refine trG_held (.string ⟨x.s.toArray⟩) rfl ?_ (by simp only [nthOp, Act.put, List.setIfInBounds_toArray, List.set_cons_succ, List.set_cons_zero]; rfl) ?_
      · (rintro w' ⟨hc0, hc1, hc2, hc3⟩; simp only [nthOp]; go_simp)
      obtain ⟨q, hq⟩ : ∃ z, quote x.s = z := ⟨_, rfl⟩
      have HQ := Lib.hid hq
      clear hq
      have HCall := Lib.hid (ScI.Quote_any x.s hxl hd)
      rw [HQ.out] at HCall
      clear hd
      refine trG_one ?_
      simp only [nthOp]
      go_wp2_with fail
      refine HCall.out.mono ?_
      rintro e w7 ⟨rfl, hd⟩
      clear HCall
      go_wp2_with fail
      simp only [Reg.Next]
      refine ⟨fun _ => HC.out _ _ hd, ?_⟩
      have HCall := Lib.hid (rQuote_any x.s hxl hd)
      rw [HQ.out] at HCall
      clear hd
      refine trG_one ?_
      simp only [nthOp]
      go_wp2_with fail
      refine HCall.out.mono ?_
      rintro e w8 ⟨rfl, hd⟩
      clear HCall
      go_wp2_with fail
      simp only [Reg.Next]
      refine ⟨fun _ => HC.out _ _ hd, ?_⟩
      refine trG_plain (.bool false) rfl ?_ (by simp only [nthOp, Act.put, List.setIfInBounds_toArray, List.set_cons_succ, List.set_cons_zero]; rfl) ?_
      · (intro w'; simp only [nthOp]; go_simp)
      refine trG_plain (.bool false) rfl ?_ (by simp only [nthOp, Act.put, List.setIfInBounds_toArray, List.set_cons_succ, List.set_cons_zero]; rfl) ?_
      · (intro w'; simp only [nthOp]; go_simp)
      refine trG_done ?_
      have HS := Lib.hid hd
      clear hd
      go_wp2_with fail
      exact ⟨⟨i + 1, by omega, by omega, by go_num, HS.out⟩, by simp [intOf]; omega⟩
    · have hcond : (decide ((i : Int) < n) && decide ((i : Int) < 60)) = false := by
        rw [Bool.and_eq_false_iff]
        by_cases h1 : i < n
        · right; exact decide_eq_false (by omega)
        · left; exact decide_eq_false (by omega)
      have HPr := Lib.hid (Print_any (HG.out.1.st hS) a n c L HN.out HOA.out (sl_past HSL.out hS))
      obtain ⟨P, pe, hP⟩ : ∃ x y, printP L = (x, y) := ⟨_, _, rfl⟩
      have HPr := Lib.hid (HPr.out.mono fun e w h => by unfold ScV.NPst at h; rw [hP] at h; exact h)
      have HP := Lib.hid hP
      have HS := Lib.hid hS
      clear hS hP
      have fin : ∀ (wx : World), St W wx emp → Calls Tryz.prog 18 #[.slice a n c] wx fun e w' => e = .returned (.tuple #[.string ⟨P.toArray⟩, .int .i64 (pe : Nat)]) ∧ St W w' emp := fun wx hS => (rPrint_any a n c L HN.out (by omega) HOA.out HSL.out hS).mono fun e w h => by rw [HP.out] at h; exact h
      have HFin := Lib.hid fin
      clear fin
      by_cases h1 : i < n
      · have h60 : ¬ (i : Int) < 60 := by omega
        have hinI : (i : Int) < n := by omega
        clear hcond hin
        go_wp2_with fail
        refine HPr.out.mono ?_
        rintro e w3 ⟨rfl, hb⟩
        have hS := HS.out.past hb
        have HF := Lib.hid (HFin.out _ hS)
        clear hS HPr HS HFin hb
        go_wp2_with fail
        refine HF.out.mono ?_
        rintro e w4 ⟨rfl, hS⟩
        have HS := Lib.hid hS
        clear hS HF
        go_wp2
        go_ret
        exact ⟨rfl, HS.out⟩
      · have hinI : ¬ (i : Int) < n := by omega
        clear hcond hin
        go_wp2_with fail
        refine HPr.out.mono ?_
        rintro e w3 ⟨rfl, hb⟩
        have hS := HS.out.past hb
        have HF := Lib.hid (HFin.out _ hS)
        clear hS HPr HS HFin hb
        go_wp2_with fail
        refine HF.out.mono ?_
        rintro e w4 ⟨rfl, hS⟩
        have HS := Lib.hid hS
        clear hS HF
        go_wp2
        go_ret
        exact ⟨rfl, HS.out⟩
end Go.Proofs.YtcjlbimmplejjaaGreatDoor.ScPe
