import Derived.Test.YtcjlbimmplejjaaGreatDoorScO
namespace Go.Proofs.YtcjlbimmplejjaaGreatDoor.ScV
open Go Go.RowKit Go.Proofs Go.Proofs.YtcjlbimmplejjaaGreatDoor.Sep Go.Proofs.YtcjlbimmplejjaaGreatDoor.Reg Go.Proofs.YtcjlbimmplejjaaGreatDoor.Frame Go.Proofs.YtcjlbimmplejjaaGreatDoor.Mp Go.Proofs.YtcjlbimmplejjaaGreatDoor.WdP Go.Proofs.YtcjlbimmplejjaaGreatDoor.WdT Go.Proofs.YtcjlbimmplejjaaGreatDoor.WdN Go.Proofs.YtcjlbimmplejjaaGreatDoor.Bld Go.Proofs.YtcjlbimmplejjaaGreatDoor.ScP Go.Proofs.YtcjlbimmplejjaaGreatDoor.ScQ Go.Proofs.YtcjlbimmplejjaaGreatDoor.ScT Go.Proofs.YtcjlbimmplejjaaGreatDoor.ScB Go.Proofs.YtcjlbimmplejjaaGreatDoor.ScA Go.Proofs.YtcjlbimmplejjaaGreatDoor.ScM Go.Proofs.YtcjlbimmplejjaaGreatDoor.ScS Go.Proofs.YtcjlbimmplejjaaGreatDoor.ScI Go.Proofs.YtcjlbimmplejjaaGreatDoor.ScJ Go.Proofs.YtcjlbimmplejjaaGreatDoor.ScW Go.Proofs.YtcjlbimmplejjaaGreatDoor.ScR Go.Proofs.YtcjlbimmplejjaaGreatDoor.ScO Go.Proofs.YtcjlbimmplejjaaGreatDoor.Held

theorem Len_any {W w : World} {b : Nat} {l : List UInt8} {R : Asn} (h : St W w (star (BldA b l) R)) :
    Calls Tryz.prog 34 #[.pointer (some ⟨b, 0, none⟩)] w fun e w' => e = .returned (.int .i64 l.length) ∧ w' = w := by
  have h2 : St W w (star (BldA b l) emp) := (h.eq (B := star R (star (BldA b l) emp)) (by rw [star_emp, star_comm])).right
  refine (Tryz.Builder_Len W.heap.size b (Lib.byteCells l) w (BldA.lib h2)).mono ?_
  rintro e w' ⟨rfl, rfl⟩
  exact ⟨by simp [Lib.byteCells], rfl⟩
theorem Str_any {W w : World} {b : Nat} {l : List UInt8} {R : Asn} (h : St W w (star (BldA b l) R)) :
    Calls Tryz.prog 38 #[.pointer (some ⟨b, 0, none⟩)] w fun e w' => e = .returned (.string ⟨l.toArray⟩) ∧ Below W.heap.size w w' := by
  have h2 : St W w (star (BldA b l) emp) := (h.eq (B := star R (star (BldA b l) emp)) (by rw [star_emp, star_comm])).right
  exact String_any h2
theorem sizeA : (Tryz.prog.info? 34).map (·.size) = some 4 := by kernel_rfl
def lenV : Value → Nat
  | .slice _ n _ => n
  | _ => 0
def CW (b4 mb ab ao : Nat) (x : Ac) (w : World) : Prop := w.cell? ⟨b4, 0, none⟩ = some (.map (some mb)) ∧ ActAt ab ao x w
def tr8 : Tr := .held 0 (.plain 1 (.plain 2 (.held 3 (.one 4 (.plain 5 (.plain 6 (.plain 7 (.plain 8 (.plain 9 .done)))))))))
theorem wordA_len {x : Ac} (hx : OkA x) (hr : rightA x = true) : (wordA x).length ≤ 20000 := by
  obtain ⟨⟨h1, h2⟩, ⟨h3, h4⟩, -⟩ := hx
  have hc := Lib.itoa_length_le x.c h1 h2
  have hn := Lib.itoa_length_le x.n h3 h4
  unfold wordA
  cases hk : kin x.k with
  | none => simp
  | some e =>
    have hw := shps_len (kin_mem hk).1
    have hq : e.2.s = true → (quote x.s).length ≤ 16400 := fun hs => by
      unfold rightA at hr
      rw [hk] at hr
      simp only [Bool.and_eq_true] at hr
      have h5 := hr.1.2
      rw [if_pos hs] at h5
      have h6 := of_decide_eq_true h5
      have h7 := flat_len x.s
      unfold quote
      rw [List.length_cons, List.length_append, List.length_singleton]; omega
    simp only [List.length_append]
    have e1 : (if e.2.c then 32 :: Lib.itoa x.c else ([] : Tx)).length ≤ 22 := by split <;> simp; omega
    have e2 : (if e.2.s then 32 :: quote x.s else ([] : Tx)).length ≤ 16401 := by
      split
      · rename_i h; have := hq h; simp; omega
      · simp
    have e3 : (nPart e.2.m x.n).length ≤ 22 := by
      cases e.2.m with
      | none => simp [nPart]
      | some m => simp [nPart]; omega
    omega
def NPst (W : World) (L : List Ac) (e : Ending) (w' : World) : Prop := e = .returned (.tuple #[.string ⟨(printP L).1.toArray⟩, .int .i64 ((printP L).2 : Nat)]) ∧ Below W.heap.size W w'
structure Go4 (W : World) (L l' : List Ac) (lv : Value) (m f : Nat) (acc : Tx) : Prop where
  sl : Sl W 4 lv m (actsV l')
  all : ∀ x ∈ l', rightA x = true ∧ OkA x
  eq : printF L.length L [] = printF f l' acc
  few : m ≤ f
set_option maxRecDepth 100000 in
set_option maxHeartbeats 16000000 in
theorem Print_any {W : World} (hG : Gl W) (a : Option Addr) (n c : Nat) (L : List Ac) (hln : L.length = n) (hOk : ∀ x ∈ L, OkA x) (hsl : Sl W 4 (.slice a n c) n (actsV L)) :
    Calls Tryz.prog 17 #[.slice a n c] W (NPst W L) := by
  have h : St W W emp := St.start W
  have hcap : n ≤ c ∧ c ≤ 9223372036854775807 := by obtain ⟨_, _, _, hv, h1, h2, _⟩ := hsl; cases hv; exact ⟨h1, by simpa [maxLen] using h2⟩
  have HSh := Lib.hid (shapes_any h)
  obtain ⟨mb, hmb⟩ : ∃ z, W.heap.size = z := ⟨_, rfl⟩
  rw [hmb] at HSh
  have HCn := Lib.hid fun b4 w1 (h : St W w1 (star (pt b4 (.cells #[.map (some mb)] 49 (0, 0))) (star (Mp kS mb shM) (emp)))) => Contains_print (fun x => !rightA x) b4 a n c L hln hsl h fun x hx w' h' => print1_any hG b4 mb x (hOk x hx) h'
  have HSL := Lib.hid hsl
  have HOK := Lib.hid hOk
  have HLN := Lib.hid hln
  have HG := Lib.hid hG
  have hmf : ∀ (fn : Fn) (first cap : Array Value) (w : World), (Instr.makeFunc fn first cap).run Tryz.prog w = .ok (.func fn first cap) w := fun _ _ _ _ => rfl
  clear h hmb hsl hOk hln hG
  go_enter Tryz.func17, Tryz.ntmps17
  go_wp2_with fail
  refine HSh.out.mono ?_
  rintro e w1 ⟨rfl, h1⟩
  have h2 := h1.alloc (.cells #[.map (some mb)] 49 (0, 0))
  obtain ⟨b4, hb4⟩ : ∃ z, w1.heap.size = z := ⟨_, rfl⟩
  rw [hb4] at h2
  clear h1 HSh
  go_upto_region 2 with fail
  clear hb4
  generalize w1.alloc (.cells #[.map (some mb)] 49 (0, 0)) = w2 at *
  have HC2 := Lib.hid (HCn.out b4 _ h2)
  clear h2 HCn
  go_wp2_with fail
  refine HC2.out.mono ?_
  rintro e w3 ⟨rfl, h3⟩
  clear HC2 hmf
  obtain ⟨an, han⟩ : ∃ b, L.any (fun x => !rightA x) = b := ⟨_, rfl⟩
  rw [han]
  have HAN := Lib.hid han
  clear han
  cases an with
  | true =>
    have HP : Hid (printP L = ([], 1)) := Lib.hid (by unfold printP; rw [if_pos HAN.out])
    have H3 := Lib.hid h3.right.right
    clear h3
    go_wp2
    go_ret2
    exact ⟨by rw [HP.out]; rfl, H3.out.below⟩
  | false =>
    by_cases h4096 : 4096 < n
    · have h4I : (4096 : Int) < n := by omega
      have HP : Hid (printP L = ([], 3)) := Lib.hid (by unfold printP; rw [if_neg (by rw [HAN.out]; decide), if_pos (by rw [HLN.out]; exact h4096)])
      have H3 := Lib.hid h3.right.right
      clear h3
      go_wp2
      go_ret2
      exact ⟨by rw [HP.out]; rfl, H3.out.below⟩
    · have h4I : ¬ (4096 : Int) < n := by omega
      have HP : Hid (printP L = if 65536 < (printF L.length L []).length then ([], 3) else (printF L.length L [], 0)) := Lib.hid (by unfold printP; rw [if_neg (by rw [HAN.out]; decide), if_neg (by rw [HLN.out]; exact h4096)])
      have HALL : Hid (∀ x ∈ L, rightA x = true ∧ OkA x) := Lib.hid fun x hx => ⟨by
        cases hr : rightA x with
        | true => rfl
        | false =>
          have := List.any_eq_false.1 HAN.out x hx
          rw [hr] at this
          exact absurd rfl this, HOK.out x hx⟩
      have h4 := BldA.new h3
      obtain ⟨bb, hbb⟩ : ∃ z, w3.heap.size = z := ⟨_, rfl⟩
      rw [hbb] at h4
      clear h3
      go_wp2_with fail
      clear hbb
      generalize w3.alloc (.cells #[.pointer none, .slice none 0 0] 73 (0, 0)) = w4 at *
      have HG0 : Hid (Go4 W L L (.slice a n c) n L.length []) := Lib.hid ⟨HSL.out, HALL.out, rfl, by rw [HLN.out]; exact Nat.le_refl _⟩
      go_loopw [0] (fun lv wr => ∃ (l' : List Ac) (a' : Option Addr) (m c' f : Nat) (acc : Tx), lv = .slice a' m c' ∧ m ≤ 4096 ∧ Hid (l'.length = m ∧ Go4 W L l' (.slice a' m c') m f acc) ∧ acc.length ≤ 200000 ∧ St W wr (star (BldA bb acc) (star (pt b4 (.cells #[.map (some mb)] 49 (0, 0))) (star (Mp kS mb shM) (emp))))) (fun lv _ => lenV lv)
      case atStart => exact ⟨L, a, n, c, L.length, [], rfl, by omega, Lib.hid ⟨HLN.out, HG0.out⟩, by simp, h4⟩
      case round =>
        obtain ⟨l', a', m, c', f, acc, rfl, hm, HGo, hacc, hS⟩ := hrel
        clear h4 HG0
        by_cases hm0 : m = 0
        · subst hm0
          have HF : Hid (printF L.length L [] = acc) := Lib.hid (by
            obtain ⟨h1, h2⟩ := HGo.out
            have hl0 := List.eq_nil_of_length_eq_zero h1
            rw [h2.eq, hl0]
            cases f <;> rfl)
          have HL2 := Lib.hid (Len_any hS)
          have HStr := Lib.hid (Str_any hS)
          have HS := Lib.hid hS
          clear hS
          go_wp2_with fail
          refine HL2.out.mono ?_
          rintro e wr ⟨rfl, rfl⟩
          by_cases hb6 : 65536 < acc.length
          · have hbI : (65536 : Int) < acc.length := by omega
            have HPF : Hid (printP L = ([], 3)) := Lib.hid (by rw [HP.out, HF.out, if_pos hb6])
            go_wp2
            go_ret2
            exact ⟨by rw [HPF.out]; rfl, HS.out.below⟩
          · have hbI : ¬ (65536 : Int) < acc.length := by omega
            have HPF : Hid (printP L = (acc, 0)) := Lib.hid (by rw [HP.out, HF.out, if_neg hb6])
            go_wp2_with fail
            refine HStr.out.mono ?_
            rintro e w9 ⟨rfl, hb9⟩
            have HB9 := Lib.hid (HS.out.below.trans hb9)
            clear hb9
            go_wp2
            go_ret2
            exact ⟨by rw [HPF.out]; rfl, HB9.out⟩
        · have hmI : (0 : Int) < m := by omega
          have HL1 := Lib.hid (Len_any hS)
          by_cases hbig : 65536 < acc.length
          · have hbI1 : ¬ (acc.length : Int) ≤ 65536 := by omega
            have HF : Hid (printF L.length L [] = acc) := Lib.hid (by rw [HGo.out.2.eq, printF_long _ _ _ hbig])
            have HS0 := Lib.hid hS
            clear hS
            go_wp2_with fail
            refine HL1.out.mono ?_
            rintro e wr ⟨rfl, rfl⟩
            have hS := HS0.out
            clear HS0
            have HL2 := Lib.hid (Len_any hS)
            have HStr := Lib.hid (Str_any hS)
            have HS := Lib.hid hS
            clear hS
            go_wp2_with fail
            refine HL2.out.mono ?_
            rintro e wr ⟨rfl, rfl⟩
            by_cases hb6 : 65536 < acc.length
            · have hbI : (65536 : Int) < acc.length := by omega
              have HPF : Hid (printP L = ([], 3)) := Lib.hid (by rw [HP.out, HF.out, if_pos hb6])
              go_wp2
              go_ret2
              exact ⟨by rw [HPF.out]; rfl, HS.out.below⟩
            · exact absurd hbig hb6
          · have hbI1 : (acc.length : Int) ≤ 65536 := by omega
            have HS0 := Lib.hid hS
            clear hS
            go_wp2_with fail
            refine HL1.out.mono ?_
            rintro e wr ⟨rfl, rfl⟩
            obtain ⟨k, rfl⟩ : ∃ k, m = k + 1 := ⟨m - 1, by omega⟩
            obtain ⟨x, r, rfl⟩ : ∃ x r, l' = x :: r := by
              cases l' with
              | nil => have := HGo.out.1; simp at this
              | cons x r => exact ⟨x, r, rfl⟩
            have hrl : r.length = k := by have := HGo.out.1; simpa using this
            have HRL := Lib.hid hrl
            obtain ⟨hrx, hox⟩ := HGo.out.2.all x (by simp)
            have HRX := Lib.hid hrx
            have HOX := Lib.hid hox
            have hwl := wordA_len hox hrx
            obtain ⟨ab, ao, rfl, -, -⟩ := act_at (sl_past HGo.out.2.sl HS0.out) (i := 0) (x := x) rfl
            have HC : Hid (∀ w A, St W w (star (BldA bb acc) (star (pt b4 (.cells #[.map (some mb)] 49 (0, 0))) A)) → CW b4 mb ab ao x w) := Lib.hid fun w A h => by
              obtain ⟨ab2, ao2, e, h2, -⟩ := act_at (sl_past HGo.out.2.sl h) (i := 0) (x := x) rfl
              cases e
              rw [Nat.zero_mul, Nat.add_zero] at h2
              exact ⟨h.right.cell 0 rfl, h2⟩
            clear hrl hrx hox HL1
            go_upto_region 8 with fail
            have hd := HS0.out.drew
            clear HS0
            refine Go.Proofs.YtcjlbimmplejjaaGreatDoor.Held.wp_region_held (CW b4 mb ab ao x) [] tr8 (by kernel_rfl) (by kernel_rfl) (HC.out _ _ hd) ?_
            generalize hw9 : World.drew _ = w5 at *
            clear hw9
            unfold tr8
            refine tr_held (.map (some mb)) rfl ?_ (by simp only [nthOp, Act.put, List.setIfInBounds_toArray, List.set_cons_succ, List.set_cons_zero]; rfl) ?_
            · (rintro w' ⟨hm0, hc0, hc1, hc2, hc3⟩; simp only [nthOp]; go_simp)
            refine tr_plain (.slice (some ⟨ab, ao, none⟩) (k + 1) c') rfl ?_ (by simp only [nthOp, Act.put, List.setIfInBounds_toArray, List.set_cons_succ, List.set_cons_zero]; rfl) ?_
            · exact fun _ => rfl
            refine tr_plain (.pointer (some ⟨ab, ao, none⟩)) rfl ?_ (by simp only [nthOp, Act.put, List.setIfInBounds_toArray, List.set_cons_succ, List.set_cons_zero]; rfl) ?_
            · (intro w'; simp only [nthOp]; go_simp)
            refine tr_held (.agg #[.int .u8 (x.k : Nat), .int .i64 x.c, .int .i64 x.n, .string ⟨x.s.toArray⟩]) rfl ?_ (by simp only [nthOp, Act.put, List.setIfInBounds_toArray, List.set_cons_succ, List.set_cons_zero]; rfl) ?_
            · (rintro w' ⟨hm0, hc0, hc1, hc2, hc3⟩; simp only [nthOp]; go_simp)
            have HW := Lib.hid (write_any HG.out mb x HOX.out (hd.eq (B := star (Mp kS mb shM) (star (BldA bb acc) (star (pt b4 (.cells #[.map (some mb)] 49 (0, 0))) (emp)))) (by ac_rfl)))
            clear hd
            refine tr_one ?_
            simp only [nthOp]
            go_wp2_with fail
            refine HW.out.mono ?_
            rintro e w6 ⟨v, rfl, hv, h6⟩
            have hv2 := hv HRX.out
            subst hv2
            rw [HRX.out]
            have h7 := h6.eq (B := star (BldA bb acc) (star (pt b4 (.cells #[.map (some mb)] 49 (0, 0))) (star (Mp kS mb shM) (emp)))) (by ac_rfl)
            clear h6 HW hv
            go_wp2_with fail
            simp only [Reg.Next]
            refine ⟨fun _ => HC.out _ _ h7, ?_⟩
            obtain ⟨wx, hwx⟩ : ∃ z, wordA x = z := ⟨_, rfl⟩
            rw [hwx] at hwl ⊢
            have HWX := Lib.hid hwx
            clear hwx
            refine tr_plain (.tuple #[.string ⟨wx.toArray⟩, .bool true]) rfl ?_ (by simp only [nthOp, Act.put, List.setIfInBounds_toArray, List.set_cons_succ, List.set_cons_zero]; rfl) ?_
            · exact fun _ => rfl
            refine tr_plain (.string ⟨wx.toArray⟩) rfl ?_ (by simp only [nthOp, Act.put, List.setIfInBounds_toArray, List.set_cons_succ, List.set_cons_zero]; rfl) ?_
            · (intro w'; simp only [nthOp]; go_simp)
            refine tr_plain (.bool true) rfl ?_ (by simp only [nthOp, Act.put, List.setIfInBounds_toArray, List.set_cons_succ, List.set_cons_zero]; rfl) ?_
            · (intro w'; simp only [nthOp]; go_simp)
            refine tr_plain (.string ⟨wx.toArray⟩) rfl ?_ (by simp only [nthOp, Act.put, List.setIfInBounds_toArray, List.set_cons_succ, List.set_cons_zero]; rfl) ?_
            · exact fun _ => rfl
            refine tr_plain (.bool true) rfl ?_ (by simp only [nthOp, Act.put, List.setIfInBounds_toArray, List.set_cons_succ, List.set_cons_zero]; rfl) ?_
            · exact fun _ => rfl
            refine tr_done ?_
            have HRu := Lib.hid (run_any (some ⟨ab, ao, none⟩) (k + 1) c' x r (by rw [HRL.out]) (by omega) HGo.out.2.sl h7)
            clear h7 HC
            obtain ⟨rn, hrn⟩ : ∃ z, runP (x :: r) = z := ⟨_, rfl⟩
            rw [hrn] at HRu
            have HRN := Lib.hid hrn
            obtain ⟨q, hq1, hq2, hq3, hq4⟩ := run_spec x r
            rw [hrn] at hq3 hq4
            have hrk : rn ≤ k + 1 := by
              have := congrArg List.length hq1
              rw [hrn, List.length_append, List.length_replicate, List.length_cons, HRL.out] at this
              omega
            clear hrn hq1 hq2
            go_wp2_with fail
            refine HRu.out.mono ?_
            rintro e w7 ⟨rfl, h8⟩
            clear HRu
            have hf : ∃ f', f = f' + 1 := ⟨f - 1, by have := HGo.out.2.few; omega⟩
            obtain ⟨f', rfl⟩ := hf
            by_cases hr3 : rn < 3
            · have hr3I : (rn : Int) < 3 := by omega
              have HPF : Hid (printF (f' + 1) (x :: r) acc = printF f' r (acc ++ (wx ++ [10]))) := Lib.hid (by
                show (if 65536 < acc.length then acc else if runP (x :: r) < 3 then printF f' r (acc ++ (wordA x ++ [10])) else _) = _
                rw [if_neg hbig, HRN.out, if_pos hr3, HWX.out])
              have HWr := Lib.hid (WriteString_any (wx ++ [10]) (by rw [List.length_append, List.length_singleton]; omega) (by omega) h8)
              have hadd := run_str_add (P := Tryz.prog) wx [10] (by simp; omega)
              obtain ⟨s1, hs1⟩ : ∃ z, wx ++ [10] = z := ⟨_, rfl⟩
              rw [hs1] at HWr hadd
              have HS1 := Lib.hid hs1
              have hs1l : s1.length ≤ 20001 := by rw [← hs1, List.length_append, List.length_singleton]; omega
              have HSL2 : Hid (Sl W 4 (.slice (if c' = 1 then some ⟨ab, ao, none⟩ else some ⟨ab, ao + 4, none⟩) k (c' - 1)) k (actsV r)) := Lib.hid (by
                have h := Sl.cut HGo.out.2.sl 1 (k + 1) (by omega) (Nat.le_refl _)
                have e1 : ((actsV (x :: r)).drop (1 * 4)).take ((k + 1 - 1) * 4) = actsV r := by
                  show (actsV r).take (k * 4) = actsV r
                  exact List.take_of_length_le (by rw [actsV_length, HRL.out]; exact Nat.le_refl _)
                rw [e1] at h
                exact h)
              clear hs1 h8
              go_wp2_with fail
              refine HWr.out.mono ?_
              rintro e w8 ⟨rfl, h9⟩
              have HGN : Hid (r.length = k ∧ Go4 W L r (.slice (if c' = 1 then some ⟨ab, ao, none⟩ else some ⟨ab, ao + 4, none⟩) k (c' - 1)) k f' (acc ++ s1)) := Lib.hid ⟨HRL.out, HSL2.out, fun z hz => HGo.out.2.all z (by simp [hz]), by rw [HGo.out.2.eq, HPF.out, HS1.out], by have := HGo.out.2.few; omega⟩
              clear HWr
              go_wp2_with fail
              exact ⟨⟨r, _, k, _, f', acc ++ s1, rfl, by omega, HGN.out, by rw [List.length_append]; omega, h9⟩, by simp [lenV]⟩
            · have hr3I : ¬ (rn : Int) < 3 := by omega
              have HPF : Hid (printF (f' + 1) (x :: r) acc = printF f' ((x :: r).drop rn) (acc ++ many3 rn x)) := Lib.hid (by
                show (if 65536 < acc.length then acc else if runP (x :: r) < 3 then printF f' r (acc ++ (wordA x ++ [10])) else printF f' ((x :: r).drop (runP (x :: r))) (acc ++ many3 (runP (x :: r)) x)) = _
                rw [if_neg hbig, HRN.out, if_neg hr3])
              have HM3 : Hid (many3 rn x = [116, 105, 109, 101, 115, 32] ++ Lib.decDigits rn ++ [10] ++ wx ++ [10, 101, 110, 100, 10]) := Lib.hid (by
                unfold many3
                rw [HWX.out]
                simp [wTimes, wEnd])
              have HI := Lib.hid (Itoa_any (rn : Int) rn rfl (by omega) w7 (HG.out.st h8))
              have hdl : (Lib.decDigits rn).length ≤ 21 := by
                have := Lib.itoa_length_le (rn : Int) (by omega) (by omega)
                rwa [Lib.itoa_nonneg] at this
              obtain ⟨dg, hdg⟩ : ∃ z, Lib.decDigits rn = z := ⟨_, rfl⟩
              rw [hdg] at HI HM3 hdl
              have hA1 := run_str_add (P := Tryz.prog) [116, 105, 109, 101, 115, 32] dg (by simp; omega)
              have hA2 := run_str_add (P := Tryz.prog) ([116, 105, 109, 101, 115, 32] ++ dg) [10] (by simp; omega)
              have hA3 := run_str_add (P := Tryz.prog) ([116, 105, 109, 101, 115, 32] ++ dg ++ [10]) wx (by simp; omega)
              have hA4 := run_str_add (P := Tryz.prog) ([116, 105, 109, 101, 115, 32] ++ dg ++ [10] ++ wx) [10, 101, 110, 100, 10] (by simp; omega)
              obtain ⟨t1, ht1⟩ : ∃ z, [116, 105, 109, 101, 115, 32] ++ dg = z := ⟨_, rfl⟩
              rw [ht1] at hA1 hA2 hA3 hA4 HM3
              obtain ⟨t2, ht2⟩ : ∃ z, t1 ++ [10] = z := ⟨_, rfl⟩
              rw [ht2] at hA2 hA3 hA4 HM3
              obtain ⟨t3, ht3⟩ : ∃ z, t2 ++ wx = z := ⟨_, rfl⟩
              rw [ht3] at hA3 hA4 HM3
              obtain ⟨t4, ht4⟩ : ∃ z, t3 ++ [10, 101, 110, 100, 10] = z := ⟨_, rfl⟩
              rw [ht4] at hA4 HM3
              have htl : t4.length ≤ 30000 := by rw [← ht4, ← ht3, ← ht2, ← ht1]; simp; omega
              have HSL2 : Hid (Sl W 4 (.slice (if c' = rn then some ⟨ab, ao, none⟩ else some ⟨ab, ao + rn * 4, none⟩) (k + 1 - rn) (c' - rn)) (k + 1 - rn) (actsV ((x :: r).drop rn))) := Lib.hid (by
                have h := Sl.cut HGo.out.2.sl rn (k + 1) (by omega) (Nat.le_refl _)
                have e1 : ((actsV (x :: r)).drop (rn * 4)).take ((k + 1 - rn) * 4) = actsV ((x :: r).drop rn) := by
                  have e2 : (actsV (x :: r)).drop (rn * 4) = actsV ((x :: r).drop rn) := by
                    have e3 : actsV (x :: r) = actsV ((x :: r).take rn) ++ actsV ((x :: r).drop rn) := by rw [← actsV_append, List.take_append_drop]
                    rw [e3]
                    exact List.drop_left' (by rw [actsV_length, List.length_take, List.length_cons, HRL.out, Nat.min_eq_left hrk])
                  rw [e2]
                  exact List.take_of_length_le (by rw [actsV_length, List.length_drop, List.length_cons, HRL.out]; exact Nat.le_refl _)
                rw [e1] at h
                have e0 : (⟨ab, ao, none⟩ : Addr).add (rn * 4) = ⟨ab, ao + rn * 4, none⟩ := by
                  unfold Addr.add
                  split
                  · rename_i h0; rw [h0]; rfl
                  · rfl
                unfold cutV at h
                rw [Option.map_some, e0] at h
                exact h)
              clear hdg ht1 ht2 ht3 ht4
              go_wp2_with fail
              refine HI.out.mono ?_
              rintro e w8 hq
              have h9 := h8.makes hq
              obtain ⟨rfl, -⟩ := hq
              have HWr := Lib.hid (WriteString_any t4 (by omega) (by omega) h9)
              clear HI h8 h9
              go_wp2_with fail
              refine HWr.out.mono ?_
              rintro e w9 ⟨rfl, h10⟩
              have HGN : Hid (((x :: r).drop rn).length = k + 1 - rn ∧ Go4 W L ((x :: r).drop rn) (.slice (if c' = rn then some ⟨ab, ao, none⟩ else some ⟨ab, ao + rn * 4, none⟩) (k + 1 - rn) (c' - rn)) (k + 1 - rn) f' (acc ++ t4)) := Lib.hid ⟨by rw [List.length_drop, List.length_cons, HRL.out], HSL2.out, fun z hz => HGo.out.2.all z (List.mem_of_mem_drop hz), by rw [HGo.out.2.eq, HPF.out, HM3.out], by have := HGo.out.2.few; omega⟩
              have hrkI : (rn : Int) ≤ (k : Int) + 1 := by omega
              have hrun := fun w => run_cut_l (P := Tryz.prog) 23 34 4 Tryz.underlying23 sizeA (some ⟨ab, ao, none⟩) (k + 1) c' rn hrk w
              unfold cutV at hrun
              clear HWr
              go_wp2_with fail
              exact ⟨⟨(x :: r).drop rn, _, k + 1 - rn, _, f', acc ++ t4, rfl, by omega, HGN.out, by rw [List.length_append]; omega, h10⟩, by simp [lenV]; omega⟩
end Go.Proofs.YtcjlbimmplejjaaGreatDoor.ScV
