import Derived.BigRegion
import Derived.Deep.CutRange
import Derived.Lib.ItoaLen
import Derived.Test.YtcjlbimmplejjaaGreatDoorScJ
namespace Go.Proofs.YtcjlbimmplejjaaGreatDoor.ScW
open Go Go.RowKit Go.Proofs Go.Proofs.YtcjlbimmplejjaaGreatDoor.Sep Go.Proofs.YtcjlbimmplejjaaGreatDoor.Reg Go.Proofs.YtcjlbimmplejjaaGreatDoor.Frame Go.Proofs.YtcjlbimmplejjaaGreatDoor.Mp Go.Proofs.YtcjlbimmplejjaaGreatDoor.MpR Go.Proofs.YtcjlbimmplejjaaGreatDoor.WdP Go.Proofs.YtcjlbimmplejjaaGreatDoor.WdT Go.Proofs.YtcjlbimmplejjaaGreatDoor.WdN Go.Proofs.YtcjlbimmplejjaaGreatDoor.ScP Go.Proofs.YtcjlbimmplejjaaGreatDoor.ScQ Go.Proofs.YtcjlbimmplejjaaGreatDoor.ScT Go.Proofs.YtcjlbimmplejjaaGreatDoor.ScB Go.Proofs.YtcjlbimmplejjaaGreatDoor.ScA Go.Proofs.YtcjlbimmplejjaaGreatDoor.ScM Go.Proofs.YtcjlbimmplejjaaGreatDoor.ScS Go.Proofs.YtcjlbimmplejjaaGreatDoor.ScI Go.Proofs.YtcjlbimmplejjaaGreatDoor.ScJ

theorem Itoa_int (n : Int) (h0 : -9223372036854775808 ≤ n) (h1 : n ≤ 9223372036854775807) (w : World) (hG : Gl w) : Calls Tryz.prog 37 #[.int .i64 n] w (Makes w (.string ⟨(Lib.itoa n).toArray⟩)) := by
  refine (Tryz.strconv_Itoa n h0 h1 w hG.2).mono ?_
  rintro e w' ⟨rfl, k, os, rfl⟩
  exact ⟨rfl, Lib.below_grow _ w (Nat.le_refl _) k os⟩
theorem shM_mem {e : Tx × Value} (h : e ∈ shM) : ∃ x ∈ shps, e = (x.1, shV x.2) := by
  obtain ⟨x, hx, rfl⟩ := List.mem_map.1 h
  exact ⟨x, hx, rfl⟩
theorem wpList_nextS {P : Program} {W w : World} {R : Asn} {b r : Nat} {left : List (Tx × Value)} {cur : Option (Tx × Value)} {ops : Array Oper} {rest : List Oper} {o : Oper} {a : Act} {Q : Exit → Act → World → Prop}
    (hg : o.guard = none) (it : Operand) (hop : o.op = Op.next it false) (hm : a.eval it = .pointer (some ⟨r, 0, none⟩)) (xk : Nat) (h : St W w (star (Rg kS b r shM left cur) R))
    (h0 : Hid (left = []) → wpList P ops Q rest (a.put o.dst (.tuple #[.bool false])) w)
    (h1 : ∀ (wd : Tx) (k : Nat) (c ss : Bool) (m : Option Nat) (left' : List (Tx × Value)) (w' : World), Hid ((wd, (⟨k, c, ss, m⟩ : Shp)) ∈ shps) → ((k : Int) != (xk : Int)) = true → left'.length < left.length → Hid (∀ x, x ∈ left' ↔ x ∈ left ∧ x.1 ≠ wd) →
      St W w' (star (Rg kS b r shM left' (some (wd, shV ⟨k, c, ss, m⟩))) R) → (Instr.entry (.pointer (some ⟨r, 0, none⟩))).run P w' = .ok (.tuple #[.string ⟨wd.toArray⟩, .agg #[.int .u8 (k : Nat), .bool c, .bool ss, .int .i64 (mI m)]]) w' →
      wpList P ops Q rest (a.put o.dst (.tuple #[.bool true, .string ⟨wd.toArray⟩, .agg #[.int .u8 (k : Nat), .bool c, .bool ss, .int .i64 (mI m)]])) w')
    (h2 : ∀ (wd : Tx) (c ss : Bool) (m : Option Nat) (left' : List (Tx × Value)) (w' : World), Hid ((wd, (⟨xk, c, ss, m⟩ : Shp)) ∈ shps) → left'.length < left.length →
      St W w' (star (Rg kS b r shM left' (some (wd, shV ⟨xk, c, ss, m⟩))) R) → (Instr.entry (.pointer (some ⟨r, 0, none⟩))).run P w' = .ok (.tuple #[.string ⟨wd.toArray⟩, .agg #[.int .u8 (xk : Nat), .bool c, .bool ss, .int .i64 (mI m)]]) w' →
      wpList P ops Q rest (a.put o.dst (.tuple #[.bool true, .string ⟨wd.toArray⟩, .agg #[.int .u8 (xk : Nat), .bool c, .bool ss, .int .i64 (mI m)]])) w') : wpList P ops Q (o :: rest) a w := by
  refine wpList_next cS hg it hop hm h (fun hl => h0 hl) fun e left' w' he hes hlt hlx h' => ?_
  obtain ⟨⟨wd, ⟨k, c, ss, m⟩⟩, hx, rfl⟩ := shM_mem hes
  by_cases hk : k = xk
  · subst hk
    exact h2 wd c ss m left' w' hx hlt h' (run_entry h')
  · exact h1 wd k c ss m left' w' hx (by rw [bne_iff_ne]; omega) hlt hlx h' (run_entry h')
theorem kin_of {wd : Tx} {h : Shp} (hm : (wd, h) ∈ shps) : kin h.k = some (wd, h) := by
  simp only [shps, List.mem_cons, List.not_mem_nil, or_false, Prod.mk.injEq] at hm
  rcases hm with ⟨rfl, rfl⟩ | ⟨rfl, rfl⟩ | ⟨rfl, rfl⟩ | ⟨rfl, rfl⟩ | ⟨rfl, rfl⟩ | ⟨rfl, rfl⟩ | ⟨rfl, rfl⟩ | ⟨rfl, rfl⟩ | ⟨rfl, rfl⟩ <;> rfl
theorem shps_uniq : ∀ e ∈ shps, ∀ f ∈ shps, e.1 = f.1 → e.2 = f.2 := by decide
theorem shps_len {e : Tx × Shp} (h : e ∈ shps) : e.1.length ≤ 10 := by
  have : ∀ e ∈ shps, e.1.length ≤ 10 := by decide
  exact this e h
def nVal : Option Nat → Int → Int
  | some _, n => n
  | none, _ => 0
theorem right_eq {xk : Nat} {wd : Tx} {c ss : Bool} {m : Option Nat} {xc xn C N mi : Int} {xs S : Tx} (e1 : C = (if c then xc else 0)) (e2 : S = (if ss then xs else [])) (e3 : N = nVal m xn) (e4 : mi = mI m) :
    ((if (wd, (⟨xk, c, ss, m⟩ : Shp)).2.c then decide (0 ≤ xc ∧ xc < 8) else xc == 0) && (if (wd, (⟨xk, c, ss, m⟩ : Shp)).2.s then decide (xs.length ≤ 4096) else xs == []) && (match (wd, (⟨xk, c, ss, m⟩ : Shp)).2.m with | some m => decide (0 ≤ xn ∧ xn ≤ (m : Int)) | none => xn == 0)) =
      (decide (0 ≤ C ∧ C < 8 ∧ 0 ≤ N ∧ N ≤ max mi 0 ∧ S.length ≤ 4096) && decide ((⟨xk, C, N, S⟩ : Ac) = ⟨xk, xc, xn, xs⟩)) := by
  subst e1
  subst e2
  subst e3
  subst e4
  rw [Bool.eq_iff_iff]
  cases c <;> cases ss <;> cases m <;> simp [mI, nVal] <;> constructor <;> (intro h; first | omega | (simp_all; try omega))
/-- An act's numbers are within Go's. -/
def OkA (x : Ac) : Prop := (-9223372036854775808 ≤ x.c ∧ x.c ≤ 9223372036854775807) ∧ (-9223372036854775808 ≤ x.n ∧ x.n ≤ 9223372036854775807) ∧ x.s.length ≤ 1000000
def WPst (W : World) (R : Asn) (mb : Nat) (x : Ac) (e : Ending) (w' : World) : Prop :=
  ∃ (v : Tx), e = .returned (.tuple #[.string ⟨v.toArray⟩, .bool (rightA x)]) ∧ (rightA x = true → v = wordA x) ∧ St W w' (star (Mp kS mb shM) R)
set_option maxRecDepth 100000 in
set_option maxHeartbeats 16000000 in
theorem write_any {W w : World} {R : Asn} (hG : Gl W) (mb : Nat) (x : Ac) (hx : OkA x) (h : St W w (star (Mp kS mb shM) R)) :
    Calls Tryz.prog 29 #[.map (some mb), .agg (aE x).toArray] w (WPst W R mb x) := by
  obtain ⟨xk, xc, xn, xs⟩ := x
  show Calls Tryz.prog 29 #[.map (some mb), .agg #[.int .u8 (xk : Nat), .int .i64 xc, .int .i64 xn, .string ⟨xs.toArray⟩]] w _
  have HOX := Lib.hid hx
  have h1 := h.alloc (.cells #[.int .u8 (xk : Nat), .int .i64 xc, .int .i64 xn, .string ⟨xs.toArray⟩] 34 (0, 0))
  obtain ⟨b3, hb3⟩ : ∃ z, w.heap.size = z := ⟨_, rfl⟩
  rw [hb3] at h1
  have HG := Lib.hid hG
  clear h hx hG
  go_enter Tryz.func29, Tryz.ntmps29
  go_upto_region 1 with fail
  clear hb3
  generalize w.alloc (.cells #[.int .u8 (xk : Nat), .int .i64 xc, .int .i64 xn, .string ⟨xs.toArray⟩] 34 (0, 0)) = w1 at *
  have h2 := h1.swap
  obtain ⟨rb, hrb⟩ : ∃ z, w1.heap.size = z := ⟨_, rfl⟩
  go_wp2_with (at_range; refine wpList_range rfl (.tmp 10) rfl Tryz.underlying49 rfl h2 ?_; rw [hrb]; intro w2 h3; go_frame)
  clear hrb h1 h2
  go_loopw [6] (fun _ wr => ∃ left cur, Hid (∀ e ∈ shps, e.2.k = xk → (e.1, shV e.2) ∈ left) ∧ St W wr (star (Rg kS mb rb shM left cur) (star (pt b3 (.cells #[.int .u8 (xk : Nat), .int .i64 xc, .int .i64 xn, .string ⟨xs.toArray⟩] 34 (0, 0))) (R)))) (fun _ wr => leftN wr mb rb)
  case atStart => exact ⟨shM, none, Lib.hid fun e he _ => List.mem_map_of_mem (f := fun e => (e.1, shV e.2)) he, h3⟩
  case round =>
    obtain ⟨left, cur, HL, hS⟩ := hrel
    clear h3
    have HLT : Hid (leftN wr mb rb = left.length) := Lib.hid (leftN_eq hS)
    go_upto_region 3 with (at_next; refine wpList_nextS rfl (.tmp 11) rfl rfl xk hS (fun hl0 => ?_) (fun wd k c ss m left2 w2 hmem hk hlt hlx h4 hen => ?_) (fun wd c ss m left2 w2 hmem hlt h4 hen => ?_))
    · have HN : Hid (rightA ⟨xk, xc, xn, xs⟩ = false) := Lib.hid (by
        unfold rightA
        cases hk : kin xk with
        | none => rfl
        | some e =>
          obtain ⟨h1, h2⟩ := kin_mem hk
          have h3 := HL.out e h1 h2
          rw [hl0.out] at h3
          cases h3)
      have HE := Lib.hid (St.rgMp hS)
      clear hS
      go_ret2
      exact ⟨[], by rw [HN.out]; rfl, (fun h => by rw [HN.out] at h; cases h), (HE.out.eq (B := star (pt b3 (.cells #[.int .u8 (xk : Nat), .int .i64 xc, .int .i64 xn, .string ⟨xs.toArray⟩] 34 (0, 0))) (star (Mp kS mb shM) (R))) (by ac_rfl)).right⟩
    · have HL2 : Hid (∀ e ∈ shps, e.2.k = xk → (e.1, shV e.2) ∈ left2) := Lib.hid (fun e he hek => (hlx.out _).2 ⟨HL.out e he hek, fun e1 => by
        have := shps_uniq e he _ hmem.out e1
        rw [this] at hek
        simp only at hek
        rw [bne_iff_ne] at hk
        omega⟩)
      have h5 := h4.alloc (.cells #[.int .u8 (k : Nat), .bool c, .bool ss, .int .i64 (mI m)] 87 (0, 0))
      obtain ⟨b7, hb7⟩ : ∃ z, w2.heap.size = z := ⟨_, rfl⟩
      rw [hb7] at h5
      clear hS h4 hlx hmem
      go_upto_region 4 with fail
      clear hen hb7
      generalize w2.alloc (.cells #[.int .u8 (k : Nat), .bool c, .bool ss, .int .i64 (mI m)] 87 (0, 0)) = w3 at *
      have e0 := h5.cell 0 (v := .int .u8 (k : Nat)) rfl
      have x0 := h5.right.right.cell 0 (v := .int .u8 (xk : Nat)) rfl
      have h6 := h5.right
      clear h5
      go_wp2_with fail
      exact ⟨⟨left2, _, HL2, h6⟩, by rw [leftN_eq h6, HLT.out]; exact hlt⟩
    · have HK := Lib.hid (kin_of hmem.out)
      have h5 := h4.alloc (.cells #[.int .u8 (xk : Nat), .bool c, .bool ss, .int .i64 (mI m)] 87 (0, 0))
      obtain ⟨b7, hb7⟩ : ∃ z, w2.heap.size = z := ⟨_, rfl⟩
      rw [hb7] at h5
      have hkk : ((xk : Int) != (xk : Int)) = false := by simp
      clear hS h4 hmem HL HLT hlt
      go_upto_region 4 with fail
      clear hen hb7
      generalize w2.alloc (.cells #[.int .u8 (xk : Nat), .bool c, .bool ss, .int .i64 (mI m)] 87 (0, 0)) = w3 at *
      have e0 := h5.cell 0 (v := .int .u8 (xk : Nat)) rfl
      have x0 := h5.right.right.cell 0 (v := .int .u8 (xk : Nat)) rfl
      have h6 := h5.alloc (.cells #[.int .u8 (xk : Nat), .int .i64 0, .int .i64 0, .string ⟨([] : Tx).toArray⟩] 34 (0, 0))
      obtain ⟨b8, hb8⟩ : ∃ z, w3.heap.size = z := ⟨_, rfl⟩
      rw [hb8] at h6
      clear h5
      go_upto_region 6 with fail
      clear hb8 e0 x0 hkk
      generalize w3.alloc (.cells #[.int .u8 (xk : Nat), .int .i64 0, .int .i64 0, .string ⟨([] : Tx).toArray⟩] 34 (0, 0)) = w4 at *
      obtain ⟨mi, hmi⟩ : ∃ mi, mI m = mi := ⟨_, rfl⟩
      rw [hmi] at h6
      have HMI := Lib.hid hmi
      clear hmi
      obtain ⟨RG, hRG⟩ : ∃ A, Rg kS mb rb shM left2 (some (wd, shV ⟨xk, c, ss, m⟩)) = A := ⟨_, rfl⟩
      have HRG := Lib.hid hRG
      rw [hRG] at h6
      clear hRG
      have hox := HOX.out
      obtain ⟨⟨hc0, hc1⟩, ⟨hn0, hn1⟩, hsl⟩ := hox
      dsimp only at hc0 hc1 hn0 hn1 hsl
      have hil := Lib.itoa_length_le xc hc0 hc1
      have hjl := Lib.itoa_length_le xn hn0 hn1
      have hwl := shps_len (kin_mem HK.out).1
      dsimp only at hwl
      -- the connection
      have e1 := h6.right.cell 1 (v := .bool c) rfl
      go_upto_if 26 with fail
      go_cut [6] from 12 to 92 (fun s wx => ∃ (C : Int) (p1 : Tx), s = .string ⟨(wd ++ p1).toArray⟩ ∧ Hid (p1 = (if c then 32 :: Lib.itoa xc else []) ∧ C = (if c then xc else 0) ∧ p1.length ≤ 30) ∧ St W wx (star (pt b8 (.cells #[.int .u8 (xk : Nat), .int .i64 (C), .int .i64 (0), .string ⟨([] : Tx).toArray⟩] 34 (0, 0))) (star (pt b7 (.cells #[.int .u8 (xk : Nat), .bool c, .bool ss, .int .i64 (mi)] 87 (0, 0))) (star (RG) (star (pt b3 (.cells #[.int .u8 (xk : Nat), .int .i64 xc, .int .i64 xn, .string ⟨xs.toArray⟩] 34 (0, 0))) (R))))))
      case first =>
        cases c with
        | false =>
          have H6 := Lib.hid h6
          clear h6
          go_wp2_with fail
          go_meet
          exact ⟨0, [], by rw [List.append_nil], Lib.hid ⟨rfl, rfl, by simp⟩, H6.out⟩
        | true =>
          have x1 := h6.right.right.right.cell 1 (v := .int .i64 xc) rfl
          have d1 := h6.cell 1 (v := .int .i64 0) rfl
          have g1 := h6.free 1
          have h7 : St W (w4.setCell ⟨b8, 1, none⟩ (.int .i64 xc)) (star (pt b8 (.cells #[.int .u8 (xk : Nat), .int .i64 (xc), .int .i64 (0), .string ⟨([] : Tx).toArray⟩] 34 (0, 0))) (star (pt b7 (.cells #[.int .u8 (xk : Nat), .bool true, .bool ss, .int .i64 (mi)] 87 (0, 0))) (star (RG) (star (pt b3 (.cells #[.int .u8 (xk : Nat), .int .i64 xc, .int .i64 xn, .string ⟨xs.toArray⟩] 34 (0, 0))) (R))))) := h6.setCell 1 (.int .i64 xc)
          clear h6
          go_upto_region 8 with fail
          clear x1 d1 g1 e1
          generalize w4.setCell ⟨b8, 1, none⟩ (.int .i64 xc) = w5 at *
          have x1 := h7.right.right.right.cell 1 (v := .int .i64 xc) rfl
          have HI := Lib.hid (Itoa_int xc hc0 hc1 w5 (HG.out.st h7))
          obtain ⟨it, hit⟩ : ∃ it, Lib.itoa xc = it := ⟨_, rfl⟩
          have HIT := Lib.hid hit
          rw [hit] at HI hil
          have hadd1 := run_str_add (P := Tryz.prog) [32] it (by simp; omega)
          have hadd2 := run_str_add (P := Tryz.prog) wd ([32] ++ it) (by simp; omega)
          clear hit
          go_wp2_with fail
          refine HI.out.mono ?_
          rintro e w6 hq
          have H8 := Lib.hid (h7.makes hq)
          obtain ⟨rfl, -⟩ := hq
          clear h7 HI x1
          go_wp2_with fail
          go_meet
          exact ⟨xc, 32 :: it, rfl, Lib.hid ⟨by rw [if_pos trivial, HIT.out], by rw [if_pos trivial], by simp; omega⟩, H8.out⟩
      case rest =>
      obtain ⟨C, p1, rfl, HP1, h7⟩ := hcut
      clear h6 e1
      have hp1 := HP1.out.2.2
      obtain ⟨v1, hv1⟩ : ∃ v, wd ++ p1 = v := ⟨_, rfl⟩
      have HV1 := Lib.hid hv1
      have hvl : v1.length ≤ 40 := by rw [← hv1, List.length_append]; omega
      rw [hv1]
      clear hv1
      -- the text
      have e2 := h7.right.cell 2 (v := .bool ss) rfl
      go_upto_if 37 with fail
      go_cut [6] from 12 to 92 (fun s wx => ∃ (S p2 : Tx), s = .string ⟨(v1 ++ p2).toArray⟩ ∧ Hid (p2 = (if ss then 32 :: quote xs else []) ∧ S = (if ss then xs else []) ∧ p2.length ≤ 5000000) ∧ St W wx (star (pt b8 (.cells #[.int .u8 (xk : Nat), .int .i64 (C), .int .i64 (0), .string ⟨(S).toArray⟩] 34 (0, 0))) (star (pt b7 (.cells #[.int .u8 (xk : Nat), .bool c, .bool ss, .int .i64 (mi)] 87 (0, 0))) (star (RG) (star (pt b3 (.cells #[.int .u8 (xk : Nat), .int .i64 xc, .int .i64 xn, .string ⟨xs.toArray⟩] 34 (0, 0))) (R))))))
      case first =>
        cases ss with
        | false =>
          have H6 := Lib.hid h7
          clear h7
          go_wp2_with fail
          go_meet
          exact ⟨[], [], by rw [List.append_nil], Lib.hid ⟨rfl, rfl, by simp⟩, H6.out⟩
        | true =>
          have x1 := h7.right.right.right.cell 3 (v := .string ⟨xs.toArray⟩) rfl
          have d1 := h7.cell 3 (v := .string ⟨([] : Tx).toArray⟩) rfl
          have g1 := h7.free 3
          have h8 : St W (wc.setCell ⟨b8, 3, none⟩ (.string ⟨xs.toArray⟩)) (star (pt b8 (.cells #[.int .u8 (xk : Nat), .int .i64 (C), .int .i64 (0), .string ⟨(xs).toArray⟩] 34 (0, 0))) (star (pt b7 (.cells #[.int .u8 (xk : Nat), .bool c, .bool true, .int .i64 (mi)] 87 (0, 0))) (star (RG) (star (pt b3 (.cells #[.int .u8 (xk : Nat), .int .i64 xc, .int .i64 xn, .string ⟨xs.toArray⟩] 34 (0, 0))) (R))))) := h7.setCell 3 (.string ⟨xs.toArray⟩)
          clear h7
          go_upto_region 11 with fail
          clear x1 d1 g1 e2
          generalize wc.setCell ⟨b8, 3, none⟩ (.string ⟨xs.toArray⟩) = w5 at *
          have x1 := h8.right.right.right.cell 3 (v := .string ⟨xs.toArray⟩) rfl
          have HQ := Lib.hid (Quote_any xs hsl h8)
          have hql : (quote xs).length ≤ 4000002 := by
            have := flat_len xs
            unfold quote
            rw [List.length_cons, List.length_append, List.length_singleton]; omega
          obtain ⟨qt, hqt⟩ : ∃ q, quote xs = q := ⟨_, rfl⟩
          have HQT := Lib.hid hqt
          rw [hqt] at HQ hql
          have hadd1 := run_str_add (P := Tryz.prog) [32] qt (by simp; omega)
          have hadd2 := run_str_add (P := Tryz.prog) v1 ([32] ++ qt) (by simp; omega)
          clear hqt h8
          go_wp2_with fail
          refine HQ.out.mono ?_
          rintro e w6 ⟨rfl, h9⟩
          have H9 := Lib.hid h9
          clear h9 HQ x1
          go_wp2_with fail
          go_meet
          exact ⟨xs, 32 :: qt, rfl, Lib.hid ⟨by rw [if_pos trivial, HQT.out], by rw [if_pos trivial], by simp; omega⟩, H9.out⟩
      case rest =>
      obtain ⟨S, p2, rfl, HP2, h8⟩ := hcut
      clear h7 e2
      have hp2 := HP2.out.2.2
      obtain ⟨v2, hv2⟩ : ∃ v, v1 ++ p2 = v := ⟨_, rfl⟩
      have HV2 := Lib.hid hv2
      have hvl2 : v2.length ≤ 5000040 := by rw [← hv2, List.length_append]; omega
      rw [hv2]
      clear hv2
      -- the number
      have e3 := h8.right.cell 3 (v := .int .i64 mi) rfl
      go_upto_if 49 with fail
      go_cut [6] from 12 to 92 (fun s wx => ∃ (N : Int) (p3 : Tx), s = .string ⟨(v2 ++ p3).toArray⟩ ∧ Hid (p3 = nPart m xn ∧ N = nVal m xn) ∧ St W wx (star (pt b8 (.cells #[.int .u8 (xk : Nat), .int .i64 (C), .int .i64 (N), .string ⟨(S).toArray⟩] 34 (0, 0))) (star (pt b7 (.cells #[.int .u8 (xk : Nat), .bool c, .bool ss, .int .i64 (mi)] 87 (0, 0))) (star (RG) (star (pt b3 (.cells #[.int .u8 (xk : Nat), .int .i64 xc, .int .i64 xn, .string ⟨xs.toArray⟩] 34 (0, 0))) (R))))))
      case first =>
        cases m with
        | none =>
          have hmn : mi = -1 := HMI.out.symm
          subst hmn
          have H6 := Lib.hid h8
          clear h8
          go_wp2_with fail
          go_meet
          exact ⟨0, [], by rw [List.append_nil], Lib.hid ⟨rfl, rfl⟩, H6.out⟩
        | some m =>
          have hmn : mi = (m : Int) := HMI.out.symm
          subst hmn
          have hm0 : (0 : Int) ≤ (m : Nat) := by omega
          have x1 := h8.right.right.right.cell 2 (v := .int .i64 xn) rfl
          have d1 := h8.cell 2 (v := .int .i64 0) rfl
          have g1 := h8.free 2
          have h9 : St W (wc.setCell ⟨b8, 2, none⟩ (.int .i64 xn)) (star (pt b8 (.cells #[.int .u8 (xk : Nat), .int .i64 (C), .int .i64 (xn), .string ⟨(S).toArray⟩] 34 (0, 0))) (star (pt b7 (.cells #[.int .u8 (xk : Nat), .bool c, .bool ss, .int .i64 ((m : Nat))] 87 (0, 0))) (star (RG) (star (pt b3 (.cells #[.int .u8 (xk : Nat), .int .i64 xc, .int .i64 xn, .string ⟨xs.toArray⟩] 34 (0, 0))) (R))))) := h8.setCell 2 (.int .i64 xn)
          clear h8
          go_upto_region 14 with fail
          clear x1 d1 g1 e3
          generalize wc.setCell ⟨b8, 2, none⟩ (.int .i64 xn) = w5 at *
          have x1 := h9.right.right.right.cell 2 (v := .int .i64 xn) rfl
          have HI := Lib.hid (Itoa_int xn hn0 hn1 w5 (HG.out.st h9))
          obtain ⟨it, hit⟩ : ∃ it, Lib.itoa xn = it := ⟨_, rfl⟩
          have HIT := Lib.hid hit
          rw [hit] at HI hjl
          have hadd1 := run_str_add (P := Tryz.prog) [32] it (by simp; omega)
          have hadd2 := run_str_add (P := Tryz.prog) v2 ([32] ++ it) (by simp; omega)
          clear hit
          go_wp2_with fail
          refine HI.out.mono ?_
          rintro e w6 hq
          have H8 := Lib.hid (h9.makes hq)
          obtain ⟨rfl, -⟩ := hq
          clear h9 HI x1
          go_wp2_with fail
          go_meet
          exact ⟨xn, 32 :: it, rfl, Lib.hid ⟨by show 32 :: it = 32 :: Lib.itoa xn; rw [HIT.out], rfl⟩, H8.out⟩
      case rest =>
      obtain ⟨N, p3, rfl, HP3, h9⟩ := hcut
      clear h8 e3
      have HW : Hid (wordA ⟨xk, xc, xn, xs⟩ = v2 ++ p3) := Lib.hid (by
        unfold wordA
        simp only [HK.out]
        rw [← HP1.out.1, ← HP2.out.1, ← HP3.out.1, ← HV2.out, ← HV1.out]
        simp [List.append_assoc])
      obtain ⟨v3, hv3⟩ : ∃ v, v2 ++ p3 = v := ⟨_, rfl⟩
      rw [hv3] at HW ⊢
      clear hv3
      have c1 := h9.cell 1 (v := .int .i64 C) rfl
      have c2 := h9.cell 2 (v := .int .i64 N) rfl
      have c3 := h9.cell 3 (v := .string ⟨S.toArray⟩) rfl
      have e3 := h9.right.cell 3 (v := .int .i64 mi) rfl
      go_upto_region 15 with fail
      have H9 := Lib.hid h9
      go_cut [9] from 12 to 92 (fun s wx => s = .bool (decide (0 ≤ C ∧ C < 8 ∧ 0 ≤ N ∧ N ≤ max mi 0 ∧ S.length ≤ 4096)) ∧ St W wx (star (pt b8 (.cells #[.int .u8 (xk : Nat), .int .i64 (C), .int .i64 (N), .string ⟨(S).toArray⟩] 34 (0, 0))) (star (pt b7 (.cells #[.int .u8 (xk : Nat), .bool c, .bool ss, .int .i64 (mi)] 87 (0, 0))) (star (RG) (star (pt b3 (.cells #[.int .u8 (xk : Nat), .int .i64 xc, .int .i64 xn, .string ⟨xs.toArray⟩] 34 (0, 0))) (R))))))
      case first =>
        have f1 : ∀ (z : Int), (z ≥ 0) = (0 ≤ z) := fun _ => rfl
        clear f1
        by_cases q1 : 0 ≤ C
        · by_cases q2 : C < 8
          · by_cases q3 : 0 ≤ N
            · by_cases q4 : N ≤ max mi 0
              · by_cases q5 : S.length ≤ 4096
                · have q5I : (S.length : Int) ≤ 4096 := by omega
                  have HB : Hid (decide (0 ≤ C ∧ C < 8 ∧ 0 ≤ N ∧ N ≤ max mi 0 ∧ S.length ≤ 4096) = true) := Lib.hid (decide_eq_true ⟨q1, q2, q3, q4, q5⟩)
                  clear h9
                  go_wp2_with fail
                  go_meet
                  exact ⟨by rw [HB.out], H9.out⟩
                · have q5I : ¬ (S.length : Int) ≤ 4096 := by omega
                  have HB : Hid (decide (0 ≤ C ∧ C < 8 ∧ 0 ≤ N ∧ N ≤ max mi 0 ∧ S.length ≤ 4096) = false) := Lib.hid (decide_eq_false (by omega))
                  clear h9
                  go_wp2_with fail
                  go_meet
                  exact ⟨by rw [HB.out], H9.out⟩
              · have HB : Hid (decide (0 ≤ C ∧ C < 8 ∧ 0 ≤ N ∧ N ≤ max mi 0 ∧ S.length ≤ 4096) = false) := Lib.hid (decide_eq_false (by omega))
                clear h9
                go_wp2_with fail
                go_meet
                exact ⟨by rw [HB.out], H9.out⟩
            · have HB : Hid (decide (0 ≤ C ∧ C < 8 ∧ 0 ≤ N ∧ N ≤ max mi 0 ∧ S.length ≤ 4096) = false) := Lib.hid (decide_eq_false (by omega))
              clear h9
              go_wp2_with fail
              go_meet
              exact ⟨by rw [HB.out], H9.out⟩
          · have HB : Hid (decide (0 ≤ C ∧ C < 8 ∧ 0 ≤ N ∧ N ≤ max mi 0 ∧ S.length ≤ 4096) = false) := Lib.hid (decide_eq_false (by omega))
            clear h9
            go_wp2_with fail
            go_meet
            exact ⟨by rw [HB.out], H9.out⟩
        · have HB : Hid (decide (0 ≤ C ∧ C < 8 ∧ 0 ≤ N ∧ N ≤ max mi 0 ∧ S.length ≤ 4096) = false) := Lib.hid (decide_eq_false (by omega))
          clear h9
          go_wp2_with fail
          go_meet
          exact ⟨by rw [HB.out], H9.out⟩
      case rest =>
      obtain ⟨rfl, h10⟩ := hcut
      have HRT : Hid (rightA ⟨xk, xc, xn, xs⟩ = (decide (0 ≤ C ∧ C < 8 ∧ 0 ≤ N ∧ N ≤ max mi 0 ∧ S.length ≤ 4096) && decide ((⟨xk, C, N, S⟩ : Ac) = ⟨xk, xc, xn, xs⟩))) := Lib.hid (by
        have e1 := HP1.out.2.1
        have e2 := HP2.out.2.1
        have e3 := HP3.out.2
        have e4 := HMI.out
        have e5 := right_eq (xk := xk) (wd := wd) e1 e2 e3 e4.symm
        unfold rightA
        rw [HK.out]
        exact e5)
      have HEND := Lib.hid (St.rgMp (by rw [← HRG.out] at h10; exact h10.right.right) |>.eq (B := star (pt b3 (.cells #[.int .u8 (xk : Nat), .int .i64 xc, .int .i64 xn, .string ⟨xs.toArray⟩] 34 (0, 0))) (star (Mp kS mb shM) (R))) (by ac_rfl)).right
      have HEND2 := Lib.hid HEND.out.drew
      have k0 := h10.cell 0 (v := .int .u8 (xk : Nat)) rfl
      have k1 := h10.cell 1 (v := .int .i64 C) rfl
      have k2 := h10.cell 2 (v := .int .i64 N) rfl
      have k3 := h10.cell 3 (v := .string ⟨S.toArray⟩) rfl
      have x0 := h10.right.right.right.cell 0 (v := .int .u8 (xk : Nat)) rfl
      have x1 := h10.right.right.right.cell 1 (v := .int .i64 xc) rfl
      have x2 := h10.right.right.right.cell 2 (v := .int .i64 xn) rfl
      have x3 := h10.right.right.right.cell 3 (v := .string ⟨xs.toArray⟩) rfl
      have heq := eqA ⟨xk, C, N, S⟩ ⟨xk, xc, xn, xs⟩
      dsimp only at heq
      obtain ⟨bb, hbb⟩ : ∃ b, decide ((⟨xk, C, N, S⟩ : Ac) = ⟨xk, xc, xn, xs⟩) = b := ⟨_, rfl⟩
      rw [hbb] at HRT heq
      obtain ⟨B, hB⟩ : ∃ b, decide (0 ≤ C ∧ C < 8 ∧ 0 ≤ N ∧ N ≤ max mi 0 ∧ S.length ≤ 4096) = b := ⟨_, rfl⟩
      rw [hB] at HRT ⊢
      clear hB hbb h9 h10 H9 c1 c2 c3 e3
      cases B with
      | false =>
        go_upto_region 16 with fail
        go_big_region
        go_wp2
        go_ret2
        refine ⟨v3, ?_, fun _ => HW.out.symm, HEND2.out⟩
        rw [HRT.out]; rfl
      | true =>
        go_upto_region 16 with fail
        go_big_region
        go_wp2
        go_ret2
        refine ⟨v3, ?_, fun _ => HW.out.symm, HEND2.out⟩
        rw [HRT.out]; rfl
end Go.Proofs.YtcjlbimmplejjaaGreatDoor.ScW
