import Derived.Test.YtedkkcbdhbbegaaTmY
import Derived.Test.YtedkkcbdhbbegaaMpR
import Derived.Carry
namespace Go.Proofs.Ytedkkcbdhbbegaa.TmZ
open Go Go.RowKit Go.Proofs Go.Proofs.Ytedkkcbdhbbegaa.Sep Go.Proofs.Ytedkkcbdhbbegaa.Reg Go.Proofs.Ytedkkcbdhbbegaa.Frame Go.Proofs.Ytedkkcbdhbbegaa.Mp Go.Proofs.Ytedkkcbdhbbegaa.MpR Go.Proofs.Ytedkkcbdhbbegaa.TmP Go.Proofs.Ytedkkcbdhbbegaa.TmQ Go.Proofs.Ytedkkcbdhbbegaa.TmI Go.Proofs.Ytedkkcbdhbbegaa.TmI2 Go.Proofs.Ytedkkcbdhbbegaa.TmI3 Go.Proofs.Ytedkkcbdhbbegaa.TmI4 Go.Proofs.Ytedkkcbdhbbegaa.TmI5 Go.Proofs.Ytedkkcbdhbbegaa.TmI8 Go.Proofs.Ytedkkcbdhbbegaa.TmK Go.Proofs.Ytedkkcbdhbbegaa.TmK3 Go.Proofs.Ytedkkcbdhbbegaa.TmY

def kE (k : Int) : Value := .int .i64 k
def eV (x : Int × Int) : Int × Value := (x.1, .int .i64 x.2)
theorem cE : KeyC (.int .i64) kE := keyC_int .i64
theorem get_eV (k : Int) (m : List (Int × Int)) : getM k (m.map eV) = (getM k m).map (.int .i64) := by
  induction m with
  | nil => rfl
  | cons x m ih =>
    rw [List.map_cons, getM_cons, getM_cons, ih]
    show (if x.1 = k then _ else _) = _
    split <;> rfl
theorem put_eV (k d : Int) (m : List (Int × Int)) : putM k (.int .i64 d) (m.map eV) = (putM k d m).map eV := by
  unfold putM
  have hk : (m.map eV).map (·.1) = m.map (·.1) := by rw [List.map_map]; rfl
  rw [hk]
  split
  · rw [List.map_map, List.map_map]
    refine List.map_congr_left fun x _ => ?_
    show (if x.1 = k then _ else _) = eV (if x.1 = k then _ else _)
    split <;> rfl
  · rw [List.map_append]; rfl
theorem del_eV (k : Int) (m : List (Int × Int)) : delM k (m.map eV) = (delM k m).map eV := by
  unfold delM
  rw [List.filter_map]
  rfl
/-- The map beside the sorted list. -/
structure RelM (l m : List (Int × Int)) : Prop where
  perm : m.Perm l
  srt : Srt ltK l
  nd : (keysOf l).Nodup
  pos : ∀ x ∈ l, 0 ≤ x.2
theorem RelM.ndm {l m : List (Int × Int)} (h : RelM l m) : (m.map (·.1)).Nodup := (h.perm.map (fun x : Int × Int => x.1)).nodup_iff.2 h.nd
theorem putM_perm {k d : Int} {m : List (Int × Int)} (hn : (m.map (·.1)).Nodup) : (putM k d m).Perm ((k, d) :: delM k m) := by
  refine (List.perm_ext_iff_of_nodup ?_ ?_).2 fun x => ?_
  · have := putM_nodup (k := k) (v := d) hn
    exact (List.pairwise_map.1 this).imp fun h e => h (by rw [e])
  · rw [List.nodup_cons]
    refine ⟨fun h => ?_, ?_⟩
    · unfold delM at h; simp at h
    · have : m.Nodup := (List.pairwise_map.1 hn).imp fun h e => h (by rw [e])
      exact this.filter _
  · obtain ⟨a, b⟩ := x
    have e1 : (a, b) ∈ putM k d m ↔ getM a (putM k d m) = some b := ⟨fun h => getM_of_mem (putM_nodup hn) h, getM_mem⟩
    rw [e1, getM_put, List.mem_cons]
    by_cases ha : a = k
    · subst ha
      simp [delM]
      constructor <;> (intro h; exact h.symm)
    · have e2 : (a, b) ∈ m ↔ getM a m = some b := ⟨fun h => getM_of_mem hn h, getM_mem⟩
      rw [if_neg ha, ← e2]
      simp [delM, ha]
theorem RelM.nil : RelM [] [] := ⟨List.Perm.refl _, List.Pairwise.nil, by simp [keysOf], by simp⟩
theorem RelM.set {l m : List (Int × Int)} (h : RelM l m) (k d : Int) (hd : 0 ≤ d) : RelM (setP ltK k d l) (putM k d m) := by
  refine ⟨?_, setP_srt ordK h.srt h.nd, setP_nodup h.nd, fun x hx => ?_⟩
  · refine (putM_perm h.ndm).trans (List.Perm.trans ?_ (setP_perm k d l).symm)
    refine List.Perm.cons _ ?_
    rw [cancelP_filter h.nd]
    exact h.perm.filter _
  · rcases (mem_setP h.nd x).1 hx with rfl | ⟨hx, _⟩
    · exact hd
    · exact h.pos x hx
theorem RelM.cancel {l m : List (Int × Int)} (h : RelM l m) (k : Int) : RelM (cancelP k l) (delM k m) := by
  refine ⟨?_, cancelP_srt h.srt, cancelP_nodup h.nd, fun x hx => h.pos x ((cancelP_sub k l).subset hx)⟩
  rw [cancelP_filter h.nd]
  exact h.perm.filter _
theorem RelM.head {k d : Int} {l m : List (Int × Int)} (h : RelM ((k, d) :: l) m) : getM k m = some d ∧ RelM l (delM k m) := by
  have h2 := h.cancel k
  have e : cancelP k ((k, d) :: l) = l := by simp [cancelP]
  rw [e] at h2
  exact ⟨getM_of_mem h.ndm (h.perm.mem_iff.2 (List.mem_cons_self ..)), h2⟩
/-- How two that are next to each other stand. -/
theorem srt_next {l : List (Int × Int)} (h : Srt ltK l) {i : Nat} {k d k' d' : Int} (h1 : l[i]? = some (k', d')) (h2 : l[i + 1]? = some (k, d)) : d' ≤ d ∧ (d = d' → k' < k) := by
  obtain ⟨hi, e1⟩ := List.getElem?_eq_some_iff.1 h1
  obtain ⟨hi2, e2⟩ := List.getElem?_eq_some_iff.1 h2
  have := List.pairwise_iff_getElem.1 h i (i + 1) hi hi2 (by omega)
  rw [e1, e2] at this
  simp only [bef, ltK, Bool.or_eq_true, Bool.and_eq_true, decide_eq_true_eq] at this
  constructor
  · omega
  · intro e; omega
/-- The due of the one ahead of place i. -/
def lastD (l : List (Int × Int)) (i : Nat) : Int := match i with
  | 0 => -1
  | i + 1 => match l[i]? with
    | some x => x.2
    | none => -1

theorem lastD_succ {l : List (Int × Int)} {i : Nat} {x : Int × Int} (h : l[i]? = some x) : lastD l (i + 1) = x.2 := by
  show (match l[i]? with | some x => x.2 | none => -1) = x.2
  rw [h]
theorem all_tw {α : Type} (p : α → Bool) : ∀ (l : List α) (x : α), x ∈ l.takeWhile p → p x = true
  | [], x, h => by cases h
  | y :: l, x, h => by
    rw [List.takeWhile_cons] at h
    split at h
    · rename_i hy
      rcases List.mem_cons.1 h with rfl | h
      · exact hy
      · exact all_tw p l x h
    · cases h
theorem wpList_nextI {P : Program} {W w : World} {b r : Nat} {m : List (Int × Int)} {left : List (Int × Value)} {cur : Option (Int × Value)} {R : Asn} {ops : Array Oper} {rest : List Oper} {o : Oper} {a : Go.Act} {Q : Exit → Go.Act → World → Prop}
    (hg : o.guard = none) (it : Operand) (hop : o.op = Op.next it false) (hm : a.eval it = .pointer (some ⟨r, 0, none⟩)) (h : St W w (star (Rg kE b r (m.map eV) left cur) R))
    (h0 : left = [] → wpList P ops Q rest (a.put o.dst (.tuple #[.bool false])) w)
    (h1 : ∀ (k d : Int) (left' : List (Int × Value)) (w' : World), (k, d) ∈ m → left'.length < left.length → (∀ x ∈ left', x ∈ left) → St W w' (star (Rg kE b r (m.map eV) left' (some (eV (k, d)))) R) →
      (Instr.entry (.pointer (some ⟨r, 0, none⟩))).run P w' = .ok (.tuple #[.int .i64 k, .int .i64 d]) w' →
      wpList P ops Q rest (a.put o.dst (.tuple #[.bool true, .int .i64 k, .int .i64 d])) w') : wpList P ops Q (o :: rest) a w := by
  refine wpList_next cE hg it hop hm h h0 fun e left' w' he hes hlt hlx h' => ?_
  obtain ⟨⟨k, d⟩, hkd, rfl⟩ := List.mem_map.1 hes
  exact h1 k d left' w' hkd hlt (fun x hx => ((hlx x).1 hx).1) h' (run_entry h')
set_option maxRecDepth 100000 in
set_option maxHeartbeats 8000000 in
theorem due_walk (a : Option Addr) (len cap : Nat) (xs : List TmY.Act) {W : World} (hlen : xs.length = len) (hsl : Sl W 3 (.slice a len cap) len (xs.flatMap ActC.E)) (_hok : ∀ x ∈ xs, ActC.Ok x) :
    Calls Try.prog 5 #[.slice a len cap] W (Law W emp) := by
  have h0 := St.start W
  have HLEN := Lib.hid hlen
  have HSL := Lib.hid hsl
  clear hlen hsl
  by_cases hbig : 150 < len
  · have HWK := Lib.hid (wakes_any W)
    go_enter Try.func5, Try.ntmps5
    go_wp2_with fail
    refine HWK.out.mono ?_
    rintro e w1 hq
    have h1 := h0.makes hq
    obtain ⟨rfl, -⟩ := hq
    go_wp2
    go_ret
    exact ⟨rfl, h1⟩
  have HN := Lib.hid (New_any h0)
  have hmm := @run_makeMap Try.prog
  go_enter Try.func5, Try.ntmps5
  go_wp2_with fail
  refine HN.out.mono ?_
  rintro e w1 ⟨p, v, rfl, h1⟩
  have h2 := Mp.St.newMp kE h1
  go_wp2_with fail
  generalize w1.heap.size = mb at *
  clear hmm
  go_loopw [5] (fun iv wr => ∃ (i : Nat) (v : Value) (l m : List (Int × Int)), i ≤ len ∧ l.length ≤ i ∧ iv = .int .i64 i ∧ RelM l m ∧ St W wr (star (Mp kE mb (m.map eV)) (star (IsT p v l) emp))) (fun iv _ => len - (intOf iv).toNat)
  case atStart => exact ⟨0, v, [], [], Nat.zero_le _, Nat.le_refl _, rfl, RelM.nil, h2⟩
  case round =>
    obtain ⟨i, v, l, m, hi, hli, rfl, hrl, hS⟩ := hrel
    have HRL := Lib.hid hrl
    clear hrl h1 h2 HN
    by_cases hin : i < len
    · obtain ⟨x, hx⟩ : ∃ x, xs[i]? = some x := ⟨_, List.getElem?_eq_getElem (by rw [HLEN.out]; exact hin)⟩
      obtain ⟨ab, ao, rfl, hel⟩ := act_at_all HSL.out hx
      obtain ⟨xd, xk, xt⟩ := x
      have he0 := hel _ _ hS 0 _ rfl
      have he1 := hel _ _ hS 1 _ rfl
      have he2 := hel _ _ hS 2 _ rfl
      simp only [Nat.add_zero] at he0
      have hA := hS.alloc (.cells #[.int .u8 xd, .int .i64 xk, .int .i64 xt] 28)
      have hb0 := hA.cell 0 rfl
      have hb1 := hA.cell 1 rfl
      have hb2 := hA.cell 2 rfl
      clear hel hx
      go_upto_block 2 with fail
      generalize wr.heap.size = bb at *
      clear hS he0 he1 he2
      have hli2 : l.length ≤ 150 := by omega
      go_cut [5] from 20 to 126 (fun s wx => s = .int .i64 i ∧ ∃ (v : Value) (l m : List (Int × Int)), l.length ≤ i + 1 ∧ RelM l m ∧ St W wx (star (Mp kE mb (m.map eV)) (star (IsT p v l) emp)))
      case first =>
        by_cases hd0 : xd = 0
        · subst hd0
          by_cases hbad : xt < 0 ∨ 4611686018427387904 < xt
          · have HSB := Lib.hid (Set_bad p xk xt hbad (wr.alloc (.cells #[.int .u8 0, .int .i64 xk, .int .i64 xt] 28)))
            rcases hbad with hbad | hbad
            · go_wp2_with fail
              refine HSB.out.mono ?_
              rintro e w4 hq
              have h5 := (hA.makes hq).right
              obtain ⟨rfl, -⟩ := hq
              go_wp2_with fail
              go_meet
              exact ⟨rfl, v, l, m, by omega, HRL.out, h5⟩
            · go_wp2_with fail
              refine HSB.out.mono ?_
              rintro e w4 hq
              have h5 := (hA.makes hq).right
              obtain ⟨rfl, -⟩ := hq
              go_wp2_with fail
              go_meet
              exact ⟨rfl, v, l, m, by omega, HRL.out, h5⟩
          · have hg0 : 0 ≤ xt := by omega
            have hg2 : xt ≤ 4611686018427387904 := by omega
            have HSS := Lib.hid (Set_any p v l HRL.out.srt (by omega) xk xt hg0 hg2 (R := star (Mp kE mb (m.map eV)) (star (pt bb (.cells #[.int .u8 0, .int .i64 xk, .int .i64 xt] 28 (0, 0))) emp)) (hA.eq (by ac_rfl)))
            have HR2 := Lib.hid (HRL.out.set xk xt hg0)
            have HLS : Hid ((setP ltK xk xt l).length ≤ i + 1) := Lib.hid (by have h1 := (setP_perm (lt := ltK) xk xt l).length_eq; have h2 := (cancelP_sub xk l).length_le; simp at h1; omega)
            clear hbad
            go_wp2_with fail
            refine HSS.out.mono ?_
            rintro e w9 ⟨rfl, v9, h9⟩
            have hb1 := h9.right.right.cell 1 rfl
            have hb2 := h9.right.right.cell 2 rfl
            have h10 := h9.eq (B := star (Mp kE mb (m.map eV)) (star (pt bb (.cells #[.int .u8 0, .int .i64 xk, .int .i64 xt] 28 (0, 0))) (star (IsT p v9 (setP ltK xk xt l)) emp))) (by ac_rfl)
            clear hA HSS
            go_wp2_with (at_mapUpdate; refine wpList_mapUpdate cE rfl (.tmp 41) (.tmp 43) (.tmp 45) rfl Try.underlying47 Try.underlying3 rfl h10 xk (.int .i64 xt) rfl rfl ?_; intro w11 h11)
            rw [put_eV] at h11
            go_meet
            exact ⟨rfl, v9, _, _, HLS.out, HR2.out, (h11.eq (B := star (pt bb (.cells #[.int .u8 0, .int .i64 xk, .int .i64 xt] 28 (0, 0))) (star (Mp kE mb ((putM xk xt m).map eV)) (star (IsT p v9 (setP ltK xk xt l)) emp))) (by ac_rfl)).right⟩
        · have hd0b : (xd == 0) = false := by simpa using hd0
          by_cases hd1 : xd = 1
          · subst hd1
            have HC := Lib.hid (Cancel_any p v l xk (decide (xk ∈ keysOf l)) rfl (R := star (Mp kE mb (m.map eV)) (star (pt bb (.cells #[.int .u8 1, .int .i64 xk, .int .i64 xt] 28 (0, 0))) emp)) (hA.eq (by ac_rfl)))
            have HR2 := Lib.hid (HRL.out.cancel xk)
            have HLS : Hid ((cancelP xk l).length ≤ i + 1) := Lib.hid (by have h2 := (cancelP_sub xk l).length_le; omega)
            go_wp2_with fail
            refine HC.out.mono ?_
            rintro e w9 ⟨rfl, v9, h9⟩
            have hb1 := h9.right.right.cell 1 rfl
            have h10 := h9.eq (B := star (Mp kE mb (m.map eV)) (star (pt bb (.cells #[.int .u8 1, .int .i64 xk, .int .i64 xt] 28 (0, 0))) (star (IsT p v9 (cancelP xk l)) emp))) (by ac_rfl)
            clear hA HC
            go_wp2_with (at_delete; refine wpList_delete cE rfl (.tmp 52) (.tmp 54) rfl Try.underlying47 Try.underlying3 rfl h10 xk rfl ?_; intro w11 h11)
            rw [del_eV] at h11
            go_meet
            exact ⟨rfl, v9, _, _, HLS.out, HR2.out, (h11.eq (B := star (pt bb (.cells #[.int .u8 1, .int .i64 xk, .int .i64 xt] 28 (0, 0))) (star (Mp kE mb ((delM xk m).map eV)) (star (IsT p v9 (cancelP xk l)) emp))) (by ac_rfl)).right⟩
          · have hd1b : (xd == 1) = false := by simpa using hd1
            by_cases hd2 : xd = 2
            · subst hd2
              have HP := Lib.hid (Pop_any p v l HRL.out.srt (by omega) xt (R := star (Mp kE mb (m.map eV)) (star (pt bb (.cells #[.int .u8 2, .int .i64 xk, .int .i64 xt] 28 (0, 0))) emp)) (hA.eq (by ac_rfl)))
              go_wp2_with fail
              refine HP.out.mono ?_
              rintro e w9 ⟨o, v9, rfl, h9⟩
              have hnl : (outP xt l).length ≤ l.length := by unfold outP keysOf; rw [List.length_map]; exact (List.takeWhile_sublist _).length_le
              have HOUT : Hid (∀ i : Nat, i < (outP xt l).length → ∃ x, l[i]? = some x ∧ (outV xt l)[i]? = some (kv x.1) ∧ x.2 ≤ xt) := Lib.hid (fun i hi => by
                obtain ⟨x, h1, h2⟩ := out_at (now := xt) (l := l) i hi
                refine ⟨x, h1, h2, ?_⟩
                have e := out_rest xt l
                have hi2 : i < (l.takeWhile fun x => decide (x.2 ≤ xt)).length := by simpa [outP, keysOf] using hi
                have h3 : (l.takeWhile fun x => decide (x.2 ≤ xt))[i]? = some x := by
                  rw [← e, List.getElem?_append_left hi2] at h1; exact h1
                have h4 := all_tw _ _ _ (List.mem_of_getElem? h3)
                simpa using h4)
              have HDR : Hid (l.drop (outP xt l).length = restP xt l) := Lib.hid (drop_out xt l)
              generalize (outP xt l).length = n at *
              obtain ⟨_, oa, oc, rfl, _⟩ := id h9.rowSl
              have h10 := h9.eq (B := star (Mp kE mb (m.map eV)) (star (Row 3 1 (.slice oa n oc) n (outV xt l)) (star (pt bb (.cells #[.int .u8 2, .int .i64 xk, .int .i64 xt] 28 (0, 0))) (star (IsT p v9 (restP xt l)) emp)))) (by ac_rfl)
              clear HP hA h9 hb0 hb1 hb2
              go_wp2_with fail
              go_loopw [8, 9] (fun lv iv wr => ∃ (j : Nat) (m : List (Int × Int)), j ≤ n ∧ iv = .int .i64 j ∧ lv = .int .i64 (lastD l j) ∧ RelM (l.drop j) m ∧
                  St W wr (star (Mp kE mb (m.map eV)) (star (Row 3 1 (.slice oa n oc) n (outV xt l)) (star (pt bb (.cells #[.int .u8 2, .int .i64 xk, .int .i64 xt] 28 (0, 0))) (star (IsT p v9 (restP xt l)) emp))))) (fun _ iv _ => n - (intOf iv).toNat)
              case atStart => exact ⟨0, m, Nat.zero_le _, rfl, rfl, by simpa using HRL.out, h10⟩
              case round =>
                obtain ⟨j, m, hj, rfl, rfl, hrm, hS⟩ := hrel
                have HRM := Lib.hid hrm
                clear hrm h10
                by_cases hjn : j < n
                · obtain ⟨⟨x1, x2⟩, hx, ho, hxt⟩ := HOUT.out j hjn
                  obtain ⟨ob', oo', rfl, hel⟩ := sl_addr hS.right.rowSl (by have := (List.getElem?_eq_some_iff.1 ho).1; omega)
                  have hoj := hel j _ ho
                  have hdr : l.drop j = (x1, x2) :: l.drop (j + 1) := by
                    obtain ⟨hl, hx⟩ := List.getElem?_eq_some_iff.1 hx
                    rw [← hx]; exact List.drop_eq_getElem_cons hl
                  have hh := hdr ▸ HRM.out
                  have HRM2 := Lib.hid hh.head.2
                  have hpos : 0 ≤ x2 := HRL.out.pos _ (List.mem_of_getElem? hx)
                  have hlk : (Instr.lookup 47 (.map (some mb)) (.int .i64 x1) true).run Try.prog wr = .ok (.tuple #[.int .i64 x2, .bool true]) wr := by
                    have h1 := run_lookup (P := Try.prog) cE Try.underlying47 Try.underlying3 (Try.zeroValue3 wr) hS x1 true
                    rw [get_eV, hh.head.1] at h1
                    exact h1
                  have hg1 : decide (xt < x2) = false := by simpa using hxt
                  have hb2 := hS.right.right.cell 2 rfl
                  have HLS : Hid (lastD l (j + 1) = x2) := Lib.hid (lastD_succ hx)
                  have hl1 : decide (x2 < lastD l j) = false := by
                    rw [decide_eq_false_iff_not]
                    cases j with
                    | zero => show ¬ x2 < -1; omega
                    | succ j =>
                      cases hy : l[j]? with
                      | none => have := List.getElem?_eq_none_iff.1 hy; have := (List.getElem?_eq_some_iff.1 hx).1; omega
                      | some y =>
                        have := (srt_next HRL.out.srt (k' := y.1) (d' := y.2) hy hx).1
                        rw [lastD_succ hy]; omega
                  have hjI : (j : Int) < n := by omega
                  by_cases hl2 : x2 = lastD l j
                  · obtain ⟨q, rfl⟩ : ∃ q, j = q + 1 := by
                      cases j with
                      | zero => exact absurd hl2 (by show ¬ x2 = -1; omega)
                      | succ q => exact ⟨q, rfl⟩
                    have hl2b : (x2 == lastD l (q + 1)) = true := by simpa using hl2
                    obtain ⟨⟨y1, y2⟩, hy, hoy, _⟩ := HOUT.out q (by omega)
                    have hoq := hel q _ hoy
                    have hyx : y1 < x1 := (srt_next HRL.out.srt hy hx).2 (by rw [hl2, lastD_succ hy])
                    have hyd : decide (x1 ≤ y1) = false := by rw [decide_eq_false_iff_not]; omega
                    have hs1 : IntKind.i64.wrap (((q + 1 : Nat) : Int) - 1) = (q : Int) := by rw [IntKind.wrap_i64]; omega
                    have hs2 : (((q + 1 : Nat) : Int) - 1) = (q : Int) := by omega
                    have hqI : (q : Int) < n := by omega
                    clear hel hx ho hdr hh hxt hl2 hyx hy hoy hpos
                    go_wp2_with fail
                    go_big_quiet (fail)
                    have h11 := hS.drewN nq
                    have hoj2 : (wr.drewN nq).cell? ⟨ob', oo' + (q + 1), none⟩ = some (kv x1) := hoj
                    go_wp2_with (at_delete; refine wpList_delete cE rfl (.tmp 107) (.tmp 111) rfl Try.underlying47 Try.underlying3 rfl h11 x1 rfl ?_; intro w12 h12)
                    rw [del_eV] at h12
                    exact ⟨⟨q + 1 + 1, _, hjn, by go_num, by rw [HLS.out], HRM2.out, h12⟩, by simp [intOf]; omega⟩
                  · have hl2b : (x2 == lastD l j) = false := by simpa using hl2
                    clear hel hx ho hdr hh hxt hl2 hpos
                    go_wp2_with fail
                    go_big_quiet (fail)
                    have h11 := hS.drewN nq
                    have hoj2 : (wr.drewN nq).cell? ⟨ob', oo' + j, none⟩ = some (kv x1) := hoj
                    go_wp2_with (at_delete; refine wpList_delete cE rfl (.tmp 107) (.tmp 111) rfl Try.underlying47 Try.underlying3 rfl h11 x1 rfl ?_; intro w12 h12)
                    rw [del_eV] at h12
                    exact ⟨⟨j + 1, _, hjn, by go_num, by rw [HLS.out], HRM2.out, h12⟩, by simp [intOf]; omega⟩
                · obtain rfl : j = n := by omega
                  rw [HDR.out] at HRM
                  have HLR : Hid ((restP xt l).length ≤ i + 1) := Lib.hid (by rw [← HDR.out, List.length_drop]; omega)
                  go_wp2_with (at_range; refine wpList_range rfl (.tmp 112) rfl Try.underlying47 rfl hS ?_; intro w13 h13; go_frame)
                  generalize wr.heap.size = rb at *
                  clear hS HOUT
                  go_loopw [13] (fun _ wr => ∃ left cur, (∀ x ∈ left, x ∈ m.map eV) ∧ St W wr (star (Rg kE mb rb (m.map eV) left cur) (star (Row 3 1 (.slice oa j oc) j (outV xt l)) (star (pt bb (.cells #[.int .u8 2, .int .i64 xk, .int .i64 xt] 28 (0, 0))) (star (IsT p v9 (restP xt l)) emp))))) (fun _ wr => leftN wr mb rb)
                  case atStart => exact ⟨m.map eV, none, fun _ h => h, h13⟩
                  case round =>
                    obtain ⟨left, cur, hlf, hS⟩ := hrel
                    have HLF := Lib.hid hlf
                    clear hlf h13
                    have HLT : Hid (leftN wr mb rb = left.length) := Lib.hid (leftN_eq hS)
                    have hb2 := hS.right.right.cell 2 rfl
                    have HLATE : Hid (∀ k d, (k, d) ∈ m → xt < d) := Lib.hid (fun k d h => rest_late ordK HRL.out.srt (k, d) (HRM.out.perm.mem_iff.1 h))
                    go_wp2_with (at_next; refine wpList_nextI rfl (.tmp 113) rfl rfl hS (fun hl0 => ?_) (fun k2 d2 left2 w14 he2 hlt2 hlx2 h14 hen => (fun (hb3 : w14.cell? ⟨bb, 2, none⟩ = some (.int .i64 xt)) (hld : ¬ d2 ≤ xt) => ?_) (h14.right.right.cell 2 rfl) (by have := HLATE.out k2 d2 he2; omega)))
                    · have h15 := (St.rgMp hS).eq (B := star (star (Row 3 1 (.slice oa j oc) j (outV xt l)) (pt bb (.cells #[.int .u8 2, .int .i64 xk, .int .i64 xt] 28 (0, 0)))) (star (Mp kE mb (m.map eV)) (star (IsT p v9 (restP xt l)) emp))) (by ac_rfl)
                      go_meet
                      exact ⟨rfl, v9, _, m, HLR.out, HRM.out, h15.right⟩
                    · exact ⟨⟨left2, _, fun x hx => HLF.out x (hlx2 x hx), h14⟩, by rw [leftN_eq h14, HLT.out]; exact hlt2⟩
            · have hd2b : (xd == 2) = false := by simpa using hd2
              go_wp2_with fail
              go_meet
              exact ⟨rfl, v, l, m, by omega, HRL.out, hA.right⟩
      case rest =>
        obtain ⟨rfl, v, l, m, hll, hrl, h3⟩ := hcut
        have HLL := Lib.hid hll
        have HR := Lib.hid hrl
        have HLM : Hid ((m.map eV).length = l.length) := Lib.hid (by rw [List.length_map, hrl.perm.length_eq])
        have HLN := Lib.hid (Len_any p v l (h3.eq (B := star (IsT p v l) (star (Mp kE mb (m.map eV)) emp)) (by ac_rfl)))
        clear hrl hll hb0 hb1 hb2 hA HRL
        go_wp2_with fail
        refine HLN.out.mono ?_
        rintro e w9 hq
        have h9 := h3.makes hq
        obtain ⟨rfl, -⟩ := hq
        have hln := fun ty => run_len (P := Try.prog) Try.underlying47 h9 ty
        rw [HLM.out] at hln
        clear HLN h3
        go_wp2_with (at_len; refine wpList_mapLen rfl (.tmp 124) rfl Try.underlying47 rfl h9 ?_; rw [HLM.out])
        exact ⟨⟨i + 1, v, l, m, by omega, HLL.out, by go_num, HR.out, h9⟩, by simp [intOf]; omega⟩
    · obtain rfl : i = len := by omega
      have HWK := Lib.hid (wakes_any wr)
      go_wp2_with fail
      refine HWK.out.mono ?_
      rintro e w9 hq
      have h9 := hS.makes hq
      obtain ⟨rfl, -⟩ := hq
      go_wp2
      go_ret
      exact ⟨rfl, h9.forget⟩
end Go.Proofs.Ytedkkcbdhbbegaa.TmZ
