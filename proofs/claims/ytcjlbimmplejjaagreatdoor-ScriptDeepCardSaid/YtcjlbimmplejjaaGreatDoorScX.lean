import Derived.BigQuiet
import Derived.Deep.LoopGhost
import Derived.Test.YtcjlbimmplejjaaGreatDoorScE
namespace Go.Proofs.YtcjlbimmplejjaaGreatDoor.ScX
open Go Go.RowKit Go.Proofs Go.Proofs.YtcjlbimmplejjaaGreatDoor.Sep Go.Proofs.YtcjlbimmplejjaaGreatDoor.Reg Go.Proofs.YtcjlbimmplejjaaGreatDoor.Frame Go.Proofs.YtcjlbimmplejjaaGreatDoor.WdP Go.Proofs.YtcjlbimmplejjaaGreatDoor.WdT Go.Proofs.YtcjlbimmplejjaaGreatDoor.WdN Go.Proofs.YtcjlbimmplejjaaGreatDoor.ScP Go.Proofs.YtcjlbimmplejjaaGreatDoor.ScQ Go.Proofs.YtcjlbimmplejjaaGreatDoor.ScT Go.Proofs.YtcjlbimmplejjaaGreatDoor.ScA Go.Proofs.YtcjlbimmplejjaaGreatDoor.ScE

def finT (pre : Tx) : Option (Tx × Tx) → Option (Tx × Tx)
  | some (x, q) => if (pre ++ x).length ≤ 4096 ∧ (q = [] ∨ q.head? = some 32) then some (pre ++ x, q) else none
  | none => none
theorem finT_nil (o : Option (Tx × Tx)) : (match o with | some (t, q) => if t.length ≤ 4096 ∧ (q = [] ∨ q.head? = some 32) then some (t, q) else none | none => none) = finT [] o := by
  cases o with
  | none => rfl
  | some x => rfl
theorem finT_step {cur r : Tx} {c : UInt8} (pre : Tx) (h1 : cur.head? ≠ some 34) (h2 : nib cur = some (c, r)) : finT pre (scan cur) = finT (pre ++ [c]) (scan r) := by
  rw [scan_step h1 h2]
  cases scan r with
  | none => rfl
  | some x => simp only [Option.map_some, finT, List.append_assoc, List.cons_append, List.nil_append]
theorem finT_none {cur : Tx} (pre : Tx) (h1 : cur.head? ≠ some 34) (h2 : nib cur = none) : finT pre (scan cur) = none := by rw [scan_none h1 h2]; rfl
theorem finT_mark (pre q : Tx) : finT pre (scan (34 :: q)) = if pre.length ≤ 4096 ∧ (q = [] ∨ q.head? = some 32) then some (pre, q) else none := by rw [scan_mark]; simp [finT]
def cutC (c : UInt8) (s : Tx) : Tx := if s.head? = some c then s.tail else s
theorem trimPre (c : UInt8) (s : Tx) : Lib.trimPrefix s [c] = cutC c s := by
  unfold Lib.trimPrefix cutC
  rw [isPre]
  cases s with
  | nil => simp
  | cons b s => by_cases h : b = c <;> simp [h]
theorem TrimPrefix_any (c : UInt8) (s : Tx) (w : World) : Calls Tryz.prog 92 #[.string ⟨s.toArray⟩, .string ⟨#[c]⟩] w (Same w (.string ⟨(cutC c s).toArray⟩)) :=
  (Tryz.strings_TrimPrefix ⟨s.toArray⟩ ⟨#[c]⟩ w).mono fun e w' ⟨h1, h2⟩ => ⟨by rw [h1, ← trimPre], h2⟩
theorem CutPrefix_any (c : UInt8) (s : Tx) (b : Bool) (hb : decide (s.head? = some c) = b) (w : World) : Calls Tryz.prog 90 #[.string ⟨s.toArray⟩, .string ⟨#[c]⟩] w (Same w (.tuple #[.string ⟨(cutC c s).toArray⟩, .bool b])) :=
  (Tryz.strings_CutPrefix ⟨s.toArray⟩ ⟨#[c]⟩ w).mono fun e w' ⟨h1, h2⟩ => ⟨by rw [h1, ← trimPre, ← hb, ← isPre], h2⟩
theorem cutC_le (c : UInt8) (s : Tx) : (cutC c s).length ≤ s.length := by
  unfold cutC
  split
  · simp
  · exact Nat.le_refl _
theorem info5 : (Tryz.prog.info? 5).map (fun i => (i.zero, i.size, i.bytes)) = some (some (.int .u8 0), 1, 1) := by kernel_rfl
def TPst (W : World) (R : Asn) (rb : Nat) (s : Tx) (e : Ending) (w' : World) : Prop :=
  (∃ t q : Tx, textP s = some (t, q) ∧ e = .returned (.string ⟨t.toArray⟩) ∧ q.length ≤ s.length ∧ St W w' (star (pt rb (.cells #[.string ⟨q.toArray⟩, .bool true] 91 (0, 0))) R)) ∨
  (textP s = none ∧ ∃ t q : Tx, e = .returned (.string ⟨t.toArray⟩) ∧ q.length ≤ s.length ∧ St W w' (star (pt rb (.cells #[.string ⟨q.toArray⟩, .bool false] 91 (0, 0))) R))
set_option maxRecDepth 100000 in
set_option maxHeartbeats 16000000 in
theorem text_any {W w : World} {R : Asn} (rb : Nat) (s : Tx) (hs : s.length ≤ 1000000) (h : St W w (star (pt rb (.cells #[.string ⟨s.toArray⟩, .bool true] 91 (0, 0))) R)) :
    Calls Tryz.prog 72 #[.pointer (some ⟨rb, 0, none⟩)] w (TPst W R rb s) := by
  obtain ⟨i5, hi5, hy0, hy1, hy2⟩ := info_parts info5
  have HB := Lib.hid (blanks_any rb s true h)
  have hl := bl_le s
  have hbig : ∃ b, decide ((bl s).head? = some 34) = b ∧ (b = true → textP s = finT [] (scan (cutC 34 (bl s)))) ∧ (b = false → textP s = none) := by
    by_cases h : (bl s).head? = some 34
    · refine ⟨true, decide_eq_true h, fun _ => ?_, fun h => by cases h⟩
      unfold textP cutC
      rw [if_pos h, if_pos h]
      exact finT_nil _
    · refine ⟨false, decide_eq_false h, (fun h => by cases h), fun _ => ?_⟩
      unfold textP
      rw [if_neg h]
  obtain ⟨z, hz⟩ : ∃ z, bl s = z := ⟨_, rfl⟩
  rw [hz] at HB hl hbig
  obtain ⟨b0, hb0, hT1, hT2⟩ := hbig
  have HC := Lib.hid fun w => CutPrefix_any 34 z b0 hb0 w
  have hcl := cutC_le 34 z
  obtain ⟨x, hx⟩ : ∃ x, cutC 34 z = x := ⟨_, rfl⟩
  rw [hx] at HC hcl hT1
  have HT1 := Lib.hid hT1
  have HT2 := Lib.hid hT2
  clear h hz hb0 hT1 hT2 hx
  go_enter Tryz.func72, Tryz.ntmps72
  go_wp2_with fail
  refine HB.out.mono ?_
  rintro e w1 ⟨rfl, h1⟩
  have c0 := h1.cell 0 (v := .string ⟨z.toArray⟩) rfl
  have f0 := h1.free 0
  have h2 : St W (w1.setCell ⟨rb, 0, none⟩ (.string ⟨x.toArray⟩)) (star (pt rb (.cells #[.string ⟨x.toArray⟩, .bool true] 91 (0, 0))) R) := h1.setCell 0 (.string ⟨x.toArray⟩)
  clear h1 HB
  go_wp2_with fail
  refine (HC.out _).mono ?_
  rintro e w1 ⟨rfl, rfl⟩
  clear HC
  go_upto_region 5 with fail
  clear c0 f0
  generalize w1.setCell ⟨rb, 0, none⟩ (.string ⟨x.toArray⟩) = w2 at *
  have k1 := h2.cell 1 (v := .bool true) rfl
  have f1 := h2.free 1
  have h3 : St W (w2.setCell ⟨rb, 1, none⟩ (.bool b0)) (star (pt rb (.cells #[.string ⟨x.toArray⟩, .bool b0] 91 (0, 0))) R) := h2.setCell 1 (.bool b0)
  clear h2
  have h4 := h3.nilRow (e := 5) (size := 1)
  have hst : ∃ g, (fun (g : Nat) (bv : Value) (wr : World) => (∃ (pre cur : Tx) (va : Option Addr) (vc : Nat), bv = .slice va pre.length vc ∧ St W wr (star (Row 5 1 (.slice va pre.length vc) (pre).length (bytesV (pre))) (star (pt rb (.cells #[.string ⟨cur.toArray⟩, .bool true] 91 (0, 0))) R)) ∧ pre.length + cur.length ≤ s.length ∧ Hid (textP s = finT pre (scan cur)) ∧ g = cur.length + 1) ∨ (∃ (pre cur : Tx) (va : Option Addr) (vc : Nat), bv = .slice va pre.length vc ∧ St W wr (star (Row 5 1 (.slice va pre.length vc) (pre).length (bytesV (pre))) (star (pt rb (.cells #[.string ⟨cur.toArray⟩, .bool false] 91 (0, 0))) R)) ∧ pre.length ≤ s.length + 1 ∧ cur.length ≤ s.length ∧ Hid (textP s = none) ∧ g = 0)) g (.slice none 0 0) (w2.setCell ⟨rb, 1, none⟩ (.bool b0)) := by
    cases b0 with
    | true => exact ⟨_, .inl ⟨[], x, none, 0, rfl, h4, by simp; omega, Lib.hid (HT1.out rfl), rfl⟩⟩
    | false => exact ⟨_, .inr ⟨[], x, none, 0, rfl, h4, by simp, by omega, Lib.hid (HT2.out rfl), rfl⟩⟩
  obtain ⟨g0, hst⟩ := hst
  have HST := Lib.hid hst
  clear hst h3 h4 HT1 HT2
  go_wp2_with fail
  go_loopg [3] g0 (fun g bv wr => (∃ (pre cur : Tx) (va : Option Addr) (vc : Nat), bv = .slice va pre.length vc ∧ St W wr (star (Row 5 1 (.slice va pre.length vc) (pre).length (bytesV (pre))) (star (pt rb (.cells #[.string ⟨cur.toArray⟩, .bool true] 91 (0, 0))) R)) ∧ pre.length + cur.length ≤ s.length ∧ Hid (textP s = finT pre (scan cur)) ∧ g = cur.length + 1) ∨ (∃ (pre cur : Tx) (va : Option Addr) (vc : Nat), bv = .slice va pre.length vc ∧ St W wr (star (Row 5 1 (.slice va pre.length vc) (pre).length (bytesV (pre))) (star (pt rb (.cells #[.string ⟨cur.toArray⟩, .bool false] 91 (0, 0))) R)) ∧ pre.length ≤ s.length + 1 ∧ cur.length ≤ s.length ∧ Hid (textP s = none) ∧ g = 0))
  case atStart => exact HST.out
  case round =>
    clear HST f1 k1
    rcases hrel with ⟨pre, cur, va, vc, rfl, hS, hpc, HT, rfl⟩ | ⟨pre, cur, va, vc, rfl, hS, hp, hcu, HT, rfl⟩
    · by_cases hq : cur.head? = some 34
      · obtain ⟨q, rfl⟩ : ∃ q, cur = 34 :: q := by
          cases cur with
          | nil => cases hq
          | cons c r => cases hq; exact ⟨r, rfl⟩
        have HT2 : Hid (textP s = if pre.length ≤ 4096 ∧ (q = [] ∨ q.head? = some 32) then some (pre, q) else none) := Lib.hid (by rw [HT.out, finT_mark])
        have HP := Lib.hid fun w => HasPrefix_any 34 (34 :: q) true rfl w
        have hql : q.length ≤ s.length := by simp at hpc; omega
        clear HT hq
        have c0 := (hS).swap.cell 0 (v := .string ⟨(34 :: q).toArray⟩) rfl
        have f0 := (hS).swap.free 0
        have k1 := (hS).swap.cell 1 (v := .bool true) rfl
        have f1 := (hS).swap.free 1
        go_wp2_with fail
        refine (HP.out _).mono ?_
        rintro e wr ⟨rfl, rfl⟩
        clear HP
        have HP2 : Hid (∀ w, Calls Tryz.prog 92 #[.string ⟨(34 :: q).toArray⟩, .string ⟨#[34]⟩] w (Same w (.string ⟨q.toArray⟩))) := Lib.hid fun w => TrimPrefix_any 34 _ w
        go_wp2_with fail
        refine (HP2.out _).mono ?_
        rintro e wr ⟨rfl, rfl⟩
        have h5 : St W (wr.setCell ⟨rb, 0, none⟩ (.string ⟨q.toArray⟩)) (star (pt rb (.cells #[.string ⟨q.toArray⟩, .bool true] 91 (0, 0))) (star (Row 5 1 (.slice va pre.length vc) (pre).length (bytesV (pre))) R)) := (hS).swap.setCell 0 (.string ⟨q.toArray⟩)
        clear hS
        go_upto_region 17 with fail
        clear c0 f0 k1 f1 HP2
        generalize wr.setCell ⟨rb, 0, none⟩ (.string ⟨q.toArray⟩) = w5 at *
        by_cases h4 : pre.length ≤ 4096
        · cases q with
          | nil =>
            have HT3 : Hid (textP s = some (pre, [])) := Lib.hid (by rw [HT2.out, if_pos ⟨h4, .inl rfl⟩])
            have k1 := h5.cell 1 (v := .bool true) rfl
            have f1 := h5.free 1
            have c0 := h5.cell 0 (v := .string ⟨(([] : Tx)).toArray⟩) rfl
            have h6 : St W (w5.setCell ⟨rb, 1, none⟩ (.bool true)) (star (pt rb (.cells #[.string ⟨(([] : Tx)).toArray⟩, .bool true] 91 (0, 0))) (star (Row 5 1 (.slice va pre.length vc) (pre).length (bytesV (pre))) R)) := h5.setCell 1 (.bool true)
            have hcv := run_string_of (P := Tryz.prog) h6.swap.rowSl 67 9 5 Tryz.underlying67 Tryz.underlying5 Tryz.underlying9
            have H7 : Hid (St W (w5.setCell ⟨rb, 1, none⟩ (.bool true)) (star (pt rb (.cells #[.string ⟨(([] : Tx)).toArray⟩, .bool true] 91 (0, 0))) R)) := Lib.hid h6.swap.right
            clear h5 h6
            go_wp2
            go_ret
            exact .inl ⟨pre, [], HT3.out, rfl, hql, H7.out⟩
          | cons c q =>
            have hsz : 0 < (ByteArray.mk (c :: q).toArray).size := by simp [ByteArray.size]
            have hgt : (ByteArray.mk (c :: q).toArray)[0]'hsz = c := rfl
            have hz : ((c :: q) == []) = false := rfl
            by_cases h32 : c = 32
            · subst h32
              have HT3 : Hid (textP s = some (pre, 32 :: q)) := Lib.hid (by rw [HT2.out, if_pos ⟨h4, .inr rfl⟩])
              have k1 := h5.cell 1 (v := .bool true) rfl
              have f1 := h5.free 1
              have c0 := h5.cell 0 (v := .string ⟨(32 :: q).toArray⟩) rfl
              have h6 : St W (w5.setCell ⟨rb, 1, none⟩ (.bool true)) (star (pt rb (.cells #[.string ⟨(32 :: q).toArray⟩, .bool true] 91 (0, 0))) (star (Row 5 1 (.slice va pre.length vc) (pre).length (bytesV (pre))) R)) := h5.setCell 1 (.bool true)
              have hcv := run_string_of (P := Tryz.prog) h6.swap.rowSl 67 9 5 Tryz.underlying67 Tryz.underlying5 Tryz.underlying9
              have H7 : Hid (St W (w5.setCell ⟨rb, 1, none⟩ (.bool true)) (star (pt rb (.cells #[.string ⟨(32 :: q).toArray⟩, .bool true] 91 (0, 0))) R)) := Lib.hid h6.swap.right
              clear h5 h6
              go_wp2
              go_ret
              exact .inl ⟨pre, _, HT3.out, rfl, hql, H7.out⟩
            · have HT3 : Hid (textP s = none) := Lib.hid (by rw [HT2.out, if_neg (by rintro ⟨-, h | h⟩ <;> simp at h; exact h32 h)])
              have hne : ((c.toNat : Int) == 32) = false := by
                rw [beq_eq_false_iff_ne]
                intro e
                exact h32 (UInt8.toNat_inj.1 (by simpa using (by omega : c.toNat = 32)))
              clear h32
              have k1 := h5.cell 1 (v := .bool true) rfl
              have f1 := h5.free 1
              have c0 := h5.cell 0 (v := .string ⟨(c :: q).toArray⟩) rfl
              have h6 : St W (w5.setCell ⟨rb, 1, none⟩ (.bool false)) (star (pt rb (.cells #[.string ⟨(c :: q).toArray⟩, .bool false] 91 (0, 0))) (star (Row 5 1 (.slice va pre.length vc) (pre).length (bytesV (pre))) R)) := h5.setCell 1 (.bool false)
              have hcv := run_string_of (P := Tryz.prog) h6.swap.rowSl 67 9 5 Tryz.underlying67 Tryz.underlying5 Tryz.underlying9
              have H7 : Hid (St W (w5.setCell ⟨rb, 1, none⟩ (.bool false)) (star (pt rb (.cells #[.string ⟨(c :: q).toArray⟩, .bool false] 91 (0, 0))) R)) := Lib.hid h6.swap.right
              clear h5 h6
              go_wp2
              go_ret
              exact .inr ⟨HT3.out, pre, _, rfl, hql, H7.out⟩
        · have HT3 : Hid (textP s = none) := Lib.hid (by rw [HT2.out, if_neg (by rintro ⟨h, -⟩; exact h4 h)])
          have k1 := h5.cell 1 (v := .bool true) rfl
          have f1 := h5.free 1
          have c0 := h5.cell 0 (v := .string ⟨q.toArray⟩) rfl
          have h6 : St W (w5.setCell ⟨rb, 1, none⟩ (.bool false)) (star (pt rb (.cells #[.string ⟨q.toArray⟩, .bool false] 91 (0, 0))) (star (Row 5 1 (.slice va pre.length vc) (pre).length (bytesV (pre))) R)) := h5.setCell 1 (.bool false)
          have hcv := run_string_of (P := Tryz.prog) h6.swap.rowSl 67 9 5 Tryz.underlying67 Tryz.underlying5 Tryz.underlying9
          have H7 : Hid (St W (w5.setCell ⟨rb, 1, none⟩ (.bool false)) (star (pt rb (.cells #[.string ⟨q.toArray⟩, .bool false] 91 (0, 0))) R)) := Lib.hid h6.swap.right
          clear h5 h6
          go_wp2
          go_ret
          exact .inr ⟨HT3.out, pre, _, rfl, hql, H7.out⟩
      · have HP := Lib.hid fun w => HasPrefix_any 34 cur false (decide_eq_false hq) w
        have c0 := (hS).swap.cell 0 (v := .string ⟨cur.toArray⟩) rfl
        have f0 := (hS).swap.free 0
        have k1 := (hS).swap.cell 1 (v := .bool true) rfl
        have f1 := (hS).swap.free 1
        cases cur with
        | nil =>
          have HN : Hid (textP s = none) := Lib.hid (by rw [HT.out]; exact finT_none pre hq rfl)
          have h5 : St W (wr.setCell ⟨rb, 1, none⟩ (.bool false)) (star (pt rb (.cells #[.string ⟨(([] : Tx)).toArray⟩, .bool false] 91 (0, 0))) (star (Row 5 1 (.slice va pre.length vc) (pre).length (bytesV (pre))) R)) := hS.swap.setCell 1 (.bool false)
          clear HT hS hq
          go_wp2_with fail
          refine (HP.out _).mono ?_
          rintro e wr ⟨rfl, rfl⟩
          go_upto_region 15 with fail
          clear c0 f0 k1 f1 HP
          generalize wr.setCell ⟨rb, 1, none⟩ (.bool false) = w5 at *
          have h6 := h5.swap
          clear h5
          go_wp2_with (at_builtin; refine wpList_append1 rfl (.tmp 76) (.tmp 78) 67 rfl 5 i5 _ 1 1 Tryz.underlying67 hi5 hy0 hy1 hy2 rfl _ pre.length _ rfl h6 #[.int .u8 (0)] rfl rfl (by intro u hu; simp at hu; subst hu; rfl) (by unfold maxLen; omega) (by omega) ?_; intro a9 c9 w9 h9)
          go_roundg 0
          case measure => omega
          case rel => exact .inr ⟨pre ++ [(0 : UInt8)], [], some ⟨a9, 0, none⟩, c9, by rw [List.length_append]; rfl, (by rw [bytesV_append, List.length_append]; exact h9), by rw [List.length_append, List.length_singleton]; omega, by first | omega | simp, HN, rfl⟩
        | cons c r =>
          have hsz : 0 < (ByteArray.mk (c :: r).toArray).size := by simp [ByteArray.size]
          have hgt : (ByteArray.mk (c :: r).toArray)[0]'hsz = c := rfl
          have hz : ((c :: r) == []) = false := rfl
          have hext : (ByteArray.mk (c :: r).toArray).extract 1 (r.length + 1) = ByteArray.mk r.toArray := by rw [str_extract]; simp
          have h5 : St W (wr.setCell ⟨rb, 0, none⟩ (.string ⟨r.toArray⟩)) (star (pt rb (.cells #[.string ⟨r.toArray⟩, .bool true] 91 (0, 0))) (star (Row 5 1 (.slice va pre.length vc) (pre).length (bytesV (pre))) R)) := hS.swap.setCell 0 (.string ⟨r.toArray⟩)
          have HQ := Lib.hid hq
          clear hS hq
          go_wp2_with fail
          refine (HP.out _).mono ?_
          rintro e wr ⟨rfl, rfl⟩
          go_upto_region 11 with fail
          clear c0 f0 k1 f1 HP hgt hz hext
          generalize wr.setCell ⟨rb, 0, none⟩ (.string ⟨r.toArray⟩) = w5 at *
          have hpc2 : pre.length + (r.length + 1) ≤ s.length := by simpa using hpc
          clear hpc
          by_cases h92 : c = 92
          · subst h92
            have HE := Lib.hid (escape_any rb r true (by omega) h5)
            clear h5
            go_wp2_with fail
            refine HE.out.mono ?_
            rintro e w6 (⟨d, q, he, rfl, h6⟩ | ⟨he, d, q, rfl, hql, h6⟩)
            · have hlen := esc_len he
              have HT2 : Hid (textP s = finT (pre ++ [d]) (scan q)) := Lib.hid (by rw [HT.out]; exact finT_step pre HQ.out he)
              have h8 := h6.swap
              clear HE HT HQ h6 he
              go_wp2_with (at_builtin; refine wpList_append1 rfl (.tmp 76) (.tmp 78) 67 rfl 5 i5 _ 1 1 Tryz.underlying67 hi5 hy0 hy1 hy2 rfl _ pre.length _ rfl h8 #[.int .u8 (d.toNat)] rfl rfl (by intro u hu; simp at hu; subst hu; rfl) (by unfold maxLen; omega) (by omega) ?_; intro a9 c9 w9 h9)
              go_roundg (q.length + 1)
              case measure => first | omega | (simp; done) | (simp; omega)
              case rel => exact .inl ⟨pre ++ [d], q, some ⟨a9, 0, none⟩, c9, by rw [List.length_append]; rfl, (by rw [bytesV_append, List.length_append]; exact h9), by rw [List.length_append, List.length_singleton]; omega, HT2, rfl⟩
            · have HN : Hid (textP s = none) := Lib.hid (by rw [HT.out]; exact finT_none pre HQ.out he)
              have h8 := h6.swap
              clear HE HT HQ h6 he
              go_wp2_with (at_builtin; refine wpList_append1 rfl (.tmp 76) (.tmp 78) 67 rfl 5 i5 _ 1 1 Tryz.underlying67 hi5 hy0 hy1 hy2 rfl _ pre.length _ rfl h8 #[.int .u8 (d.toNat)] rfl rfl (by intro u hu; simp at hu; subst hu; rfl) (by unfold maxLen; omega) (by omega) ?_; intro a9 c9 w9 h9)
              go_roundg 0
              case measure => omega
              case rel => exact .inr ⟨pre ++ [d], q, some ⟨a9, 0, none⟩, c9, by rw [List.length_append]; rfl, (by rw [bytesV_append, List.length_append]; exact h9), by rw [List.length_append, List.length_singleton]; omega, by first | omega | simp, HN, rfl⟩
          · have hne : ((c.toNat : Int) == 92) = false := by
              rw [beq_eq_false_iff_ne]
              intro e
              exact h92 (UInt8.toNat_inj.1 (by simpa using (by omega : c.toNat = 92)))
            have hnib : nib (c :: r) = if 32 ≤ c.toNat ∧ c.toNat ≤ 126 then some (c, r) else none := by
              unfold nib
              simp only
              rw [if_neg h92]
            by_cases hlo : c.toNat < 32
            · have hlI : (c.toNat : Int) < 32 := by omega
              have HN : Hid (textP s = none) := Lib.hid (by rw [HT.out]; exact finT_none pre HQ.out (by rw [hnib, if_neg (by omega)]))
              clear HT HQ hnib h92
              have h7 : St W (w5.setCell ⟨rb, 1, none⟩ (.bool false)) (star (pt rb (.cells #[.string ⟨r.toArray⟩, .bool false] 91 (0, 0))) (star (Row 5 1 (.slice va pre.length vc) (pre).length (bytesV (pre))) R)) := h5.setCell 1 (.bool false)
              have k1 := h5.cell 1 (v := .bool true) rfl
              have f1 := h5.free 1
              clear h5
              go_upto_region 15 with fail
              clear k1 f1
              generalize w5.setCell ⟨rb, 1, none⟩ (.bool false) = w6 at *
              have h8 := h7.swap
              clear h7
              go_wp2_with (at_builtin; refine wpList_append1 rfl (.tmp 76) (.tmp 78) 67 rfl 5 i5 _ 1 1 Tryz.underlying67 hi5 hy0 hy1 hy2 rfl _ pre.length _ rfl h8 #[.int .u8 (c.toNat)] rfl rfl (by intro u hu; simp at hu; subst hu; rfl) (by unfold maxLen; omega) (by omega) ?_; intro a9 c9 w9 h9)
              go_roundg 0
              case measure => omega
              case rel => exact .inr ⟨pre ++ [c], r, some ⟨a9, 0, none⟩, c9, by rw [List.length_append]; rfl, (by rw [bytesV_append, List.length_append]; exact h9), by rw [List.length_append, List.length_singleton]; omega, by first | omega | simp, HN, rfl⟩
            · by_cases hhi : 126 < c.toNat
              · have hlI : ¬ (c.toNat : Int) < 32 := by omega
                have hhI : (126 : Int) < c.toNat := by omega
                have HN : Hid (textP s = none) := Lib.hid (by rw [HT.out]; exact finT_none pre HQ.out (by rw [hnib, if_neg (by omega)]))
                clear HT HQ hnib h92
                have h7 : St W (w5.setCell ⟨rb, 1, none⟩ (.bool false)) (star (pt rb (.cells #[.string ⟨r.toArray⟩, .bool false] 91 (0, 0))) (star (Row 5 1 (.slice va pre.length vc) (pre).length (bytesV (pre))) R)) := h5.setCell 1 (.bool false)
                have k1 := h5.cell 1 (v := .bool true) rfl
                have f1 := h5.free 1
                clear h5
                go_upto_region 15 with fail
                clear k1 f1
                generalize w5.setCell ⟨rb, 1, none⟩ (.bool false) = w6 at *
                have h8 := h7.swap
                clear h7
                go_wp2_with (at_builtin; refine wpList_append1 rfl (.tmp 76) (.tmp 78) 67 rfl 5 i5 _ 1 1 Tryz.underlying67 hi5 hy0 hy1 hy2 rfl _ pre.length _ rfl h8 #[.int .u8 (c.toNat)] rfl rfl (by intro u hu; simp at hu; subst hu; rfl) (by unfold maxLen; omega) (by omega) ?_; intro a9 c9 w9 h9)
                go_roundg 0
                case measure => omega
                case rel => exact .inr ⟨pre ++ [c], r, some ⟨a9, 0, none⟩, c9, by rw [List.length_append]; rfl, (by rw [bytesV_append, List.length_append]; exact h9), by rw [List.length_append, List.length_singleton]; omega, by first | omega | simp, HN, rfl⟩
              · have hlI : ¬ (c.toNat : Int) < 32 := by omega
                have hhI : ¬ (126 : Int) < c.toNat := by omega
                have HT2 : Hid (textP s = finT (pre ++ [c]) (scan r)) := Lib.hid (by rw [HT.out]; exact finT_step pre HQ.out (by rw [hnib, if_pos (by omega)]))
                clear HT HQ hnib h92
                have h8 := h5.swap
                clear h5
                go_wp2_with (at_builtin; refine wpList_append1 rfl (.tmp 76) (.tmp 78) 67 rfl 5 i5 _ 1 1 Tryz.underlying67 hi5 hy0 hy1 hy2 rfl _ pre.length _ rfl h8 #[.int .u8 (c.toNat)] rfl rfl (by intro u hu; simp at hu; subst hu; rfl) (by unfold maxLen; omega) (by omega) ?_; intro a9 c9 w9 h9)
                go_roundg (r.length + 1)
                case measure => first | omega | (simp; done) | (simp; omega)
                case rel => exact .inl ⟨pre ++ [c], r, some ⟨a9, 0, none⟩, c9, by rw [List.length_append]; rfl, (by rw [bytesV_append, List.length_append]; exact h9), by rw [List.length_append, List.length_singleton]; omega, HT2, rfl⟩

    · have hql := cutC_le 34 cur
      have c0 := (hS).swap.cell 0 (v := .string ⟨cur.toArray⟩) rfl
      have f0 := (hS).swap.free 0
      have k1 := (hS).swap.cell 1 (v := .bool false) rfl
      have f1 := (hS).swap.free 1
      have HP2 : Hid (∀ w, Calls Tryz.prog 92 #[.string ⟨cur.toArray⟩, .string ⟨#[34]⟩] w (Same w (.string ⟨(cutC 34 cur).toArray⟩))) := Lib.hid fun w => TrimPrefix_any 34 _ w
      go_wp2_with fail
      refine (HP2.out _).mono ?_
      rintro e wr ⟨rfl, rfl⟩
      have h5 : St W (wr.setCell ⟨rb, 0, none⟩ (.string ⟨(cutC 34 cur).toArray⟩)) (star (pt rb (.cells #[.string ⟨(cutC 34 cur).toArray⟩, .bool false] 91 (0, 0))) (star (Row 5 1 (.slice va pre.length vc) (pre).length (bytesV (pre))) R)) := (hS).swap.setCell 0 (.string ⟨(cutC 34 cur).toArray⟩)
      clear hS
      go_upto_region 17 with fail
      clear c0 f0 k1 f1 HP2
      generalize wr.setCell ⟨rb, 0, none⟩ (.string ⟨(cutC 34 cur).toArray⟩) = w5 at *
      have k1 := h5.cell 1 (v := .bool false) rfl
      have f1 := h5.free 1
      have c0 := h5.cell 0 (v := .string ⟨(cutC 34 cur).toArray⟩) rfl
      have h6 : St W (w5.setCell ⟨rb, 1, none⟩ (.bool false)) (star (pt rb (.cells #[.string ⟨(cutC 34 cur).toArray⟩, .bool false] 91 (0, 0))) (star (Row 5 1 (.slice va pre.length vc) (pre).length (bytesV (pre))) R)) := h5.setCell 1 (.bool false)
      have hcv := run_string_of (P := Tryz.prog) h6.swap.rowSl 67 9 5 Tryz.underlying67 Tryz.underlying5 Tryz.underlying9
      have H7 : Hid (St W (w5.setCell ⟨rb, 1, none⟩ (.bool false)) (star (pt rb (.cells #[.string ⟨(cutC 34 cur).toArray⟩, .bool false] 91 (0, 0))) R)) := Lib.hid h6.swap.right
      clear h5 h6
      go_wp2
      go_ret
      exact .inr ⟨HT.out, pre, _, rfl, by omega, H7.out⟩

end Go.Proofs.YtcjlbimmplejjaaGreatDoor.ScX
