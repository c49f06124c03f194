import Derived.Test.YtedkkcbdhbbegaaProg
import Derived.Test.YtedkkcbdhbbegaaSlc
import Derived.Test.YtedkkcbdhbbegaaReg
import Derived.Test.YtedkkcbdhbbegaaTmQ
import Derived.Test.YtedkkcbdhbbegaaRng
import Derived.Lib.Overlaps
import Derived.Laws.Externs
namespace Go.Proofs.Ytedkkcbdhbbegaa.TmI
open Go Go.RowKit Go.Proofs Go.Proofs.Ytedkkcbdhbbegaa.Sep Go.Proofs.Ytedkkcbdhbbegaa.Reg Go.Proofs.Ytedkkcbdhbbegaa.Frame Go.Proofs.Ytedkkcbdhbbegaa.Slc Go.Proofs.Ytedkkcbdhbbegaa.TmP Go.Proofs.Ytedkkcbdhbbegaa.TmQ Go.Proofs.Ytedkkcbdhbbegaa.Rng

abbrev κ := Int
abbrev kv (k : κ) : Value := .int .i64 k
def tE (x : κ × Int) : List Value := [kv x.1, .int .i64 x.2]
def tsV (l : List (κ × Int)) : List Value := l.flatMap tE
theorem tsV_length (l : List (κ × Int)) : (tsV l).length = l.length * 2 := by
  induction l with
  | nil => rfl
  | cons x l ih => simp only [tsV, List.flatMap_cons, List.length_append, List.length_cons] at ih ⊢; rw [ih]; simp [tE]; omega
theorem tsV_append (l m : List (κ × Int)) : tsV (l ++ m) = tsV l ++ tsV m := by simp [tsV]
theorem tsV_one (l : List (κ × Int)) : ∀ u ∈ tsV l, u.oneCell' = true := by
  intro u hu
  obtain ⟨x, _, hx⟩ := List.mem_flatMap.1 hu
  simp only [tE, List.mem_cons, List.not_mem_nil, or_false] at hx
  rcases hx with rfl | rfl <;> rfl
theorem tsV_take (l : List (κ × Int)) (i : Nat) : (tsV l).take (i * 2) = tsV (l.take i) := by
  by_cases hi : i ≤ l.length
  · have e : tsV l = tsV (l.take i) ++ tsV (l.drop i) := by rw [← tsV_append, List.take_append_drop]
    rw [e, List.take_append_of_le_length (by rw [tsV_length]; simp [hi]), List.take_of_length_le (by rw [tsV_length]; simp; omega)]
  · rw [List.take_of_length_le (by rw [tsV_length]; omega), List.take_of_length_le (by omega)]
theorem tsV_drop (l : List (κ × Int)) (i : Nat) : (tsV l).drop (i * 2) = tsV (l.drop i) := by
  by_cases hi : i ≤ l.length
  · have e : tsV l = tsV (l.take i) ++ tsV (l.drop i) := by rw [← tsV_append, List.take_append_drop]
    rw [e]
    have hl : (tsV (l.take i)).length = i * 2 := by rw [tsV_length]; simp [hi]
    rw [← hl, List.drop_left]
  · rw [List.drop_of_length_le (by rw [tsV_length]; omega), List.drop_of_length_le (by omega)]; rfl
/-- The element i of a slice of timers, in every later world. -/
theorem el_at {W : World} {a : Option Addr} {n c : Nat} {l : List (κ × Int)} (h : Sl W 2 (.slice a n c) n (tsV l)) {i : Nat} {x : κ × Int} (hx : l[i]? = some x) :
    ∃ ab ao, a = some ⟨ab, ao, none⟩ ∧ ∀ w A, St W w A → w.cell? ⟨ab, ao + i * 2, none⟩ = some (kv x.1) ∧ w.cell? ⟨ab, ao + i * 2 + 1, none⟩ = some (.int .i64 x.2) := by
  have hg := flatMap_get (E := tE) (size := 2) (fun _ => rfl) l i x hx
  have hlen : 0 < (tsV l).length := by
    have := (List.getElem?_eq_some_iff.1 (show (tsV l)[i * 2 + 0]? = some (kv x.1) from hg 0 (by omega))).1
    omega
  obtain ⟨ab, ao, rfl, hc⟩ := sl_addr h hlen
  refine ⟨ab, ao, rfl, fun w A hS => ⟨?_, ?_⟩⟩
  · have := hc (i * 2 + 0) (kv x.1) (hg 0 (by omega))
    rw [Nat.add_zero] at this
    exact (hS.old (World.block_lt_of_cell? W _ this)).trans this
  · have := hc (i * 2 + 1) (.int .i64 x.2) (hg 1 (by omega))
    rw [← Nat.add_assoc] at this
    exact (hS.old (World.block_lt_of_cell? W _ this)).trans this

/-- Timers: the pointer's block, and the row behind it. -/
def IsT (p : Nat) (v : Value) (l : List (κ × Int)) : Asn := star (pt p (.cells #[v] 58 (0, 0))) (Row 61 2 v l.length (tsV l))
def atV (k : κ) (l : List (κ × Int)) : Int := if atP k l < l.length then (atP k l : Int) else -1


set_option maxRecDepth 100000 in
theorem at1_any (x : κ) (d : Int) (k : κ) (b : Bool) (hb : (x == k) = b) (bx : Nat) (w : World) (h : w.cell? ⟨bx, 0, none⟩ = some (kv k)) :
    Calls Try.prog 37 #[.agg #[kv x, .int .i64 d], .pointer (some ⟨bx, 0, none⟩)] w (Makes w (.bool b)) := by
  have HB := Lib.hid hb
  clear hb
  have h1 := (St.start w).alloc (.cells #[kv x, .int .i64 d] 61 (0, 0))
  have hc := (h1.old (World.block_lt_of_cell? w _ h)).trans h
  have hc0 := h1.cell 0 rfl
  go_enter Try.func37, Try.ntmps37
  go_wp2
  go_ret
  refine ⟨?_, h1.below⟩
  show Ending.returned (Value.bool _) = _
  rw [← HB.out]

theorem atV_some {k : κ} {l : List (κ × Int)} {i : Nat} {x : κ × Int} (hx : l[i]? = some x) (hk : x.1 = k) (hn : ∀ y ∈ l.take i, y.1 ≠ k) : atV k l = i ∧ atP k l = i := by
  obtain ⟨hil, rfl⟩ := List.getElem?_eq_some_iff.1 hx
  have e : atP k l = i := by
    unfold atP
    rw [List.findIdx_eq hil]
    refine ⟨by simpa using hk, fun j hj => ?_⟩
    simp only [decide_eq_false_iff_not]
    exact hn _ (List.mem_take_iff_getElem.2 ⟨j, by omega, rfl⟩)
  unfold atV
  rw [e, if_pos hil]; exact ⟨rfl, rfl⟩
theorem atV_none {k : κ} {l : List (κ × Int)} (hn : ∀ y ∈ l, y.1 ≠ k) : atV k l = -1 ∧ k ∉ keysOf l := by
  constructor
  · unfold atV
    rw [if_neg]
    unfold atP
    rw [List.findIdx_lt_length]
    rintro ⟨x, hx, hk⟩
    exact hn x hx (by simpa using hk)
  · intro h
    obtain ⟨x, hx, rfl⟩ := List.mem_map.1 h
    exact hn x hx rfl

set_option maxRecDepth 100000 in
set_option maxHeartbeats 1600000 in
theorem IndexFunc_any (a : Option Addr) (n c : Nat) (l : List (κ × Int)) (hl : l.length = n) (k : κ) (q : Int) (hq : atV k l = q) (bx : Nat) (w : World) (hsl : Sl w 2 (.slice a n c) n (tsV l)) (h : w.cell? ⟨bx, 0, none⟩ = some (kv k)) :
    Calls Try.prog 36 #[.slice a n c, .func (.func 37) #[] #[.pointer (some ⟨bx, 0, none⟩)]] w (Makes w (.int .i64 q)) := by
  have hcap : c ≤ 9223372036854775807 := by obtain ⟨_, _, _, e, _, h2, _⟩ := hsl; cases e; simpa [maxLen] using h2
  have hlc : n ≤ c := by obtain ⟨_, _, _, e, h1, _⟩ := hsl; cases e; exact h1
  have h0 := St.start w
  have HSL := Lib.hid hsl
  have HL := Lib.hid hl
  have HQ := Lib.hid hq
  have HB := Lib.hid h
  clear hsl hl hq h
  go_enter Try.func36, Try.ntmps36
  go_wp2_with fail
  go_loopw [8] (fun iv wr => ∃ i : Nat, i ≤ n ∧ iv = .int .i64 i ∧ (∀ y ∈ l.take i, y.1 ≠ k) ∧ St w wr emp) (fun iv _ => n - (intOf iv).toNat)
  case atStart => exact ⟨0, by omega, rfl, by simp, h0⟩
  case round =>
    obtain ⟨i, hi, rfl, hn, hS⟩ := hrel
    have HN := Lib.hid hn
    clear hn
    by_cases hi2 : i < n
    · obtain ⟨x, hx⟩ : ∃ x, l[i]? = some x := ⟨_, List.getElem?_eq_getElem (by rw [HL.out]; exact hi2)⟩
      obtain ⟨ab, ao, rfl, hcl⟩ := el_at HSL.out hx
      obtain ⟨hc0, hc1⟩ := hcl _ _ hS
      have hbx := (hS.old (World.block_lt_of_cell? w _ HB.out)).trans HB.out
      have HX := Lib.hid hx
      clear hcl hx
      obtain ⟨x1, x2⟩ := x
      simp only at hc0 hc1
      cases he : (x1 == k)
      · have HA := Lib.hid (at1_any x1 x2 k false he bx _ hbx)
        have HN2 : Hid (∀ y ∈ l.take (i + 1), y.1 ≠ k) := Lib.hid (by
          intro y hy
          rw [List.take_add_one, HX.out] at hy
          simp at hy
          rcases hy with hy | rfl
          · exact HN.out y hy
          · simpa using he)
        clear he hbx
        go_wp2_with fail
        refine HA.out.mono ?_
        rintro e w1 hq
        have h1 := hS.makes hq
        obtain ⟨rfl, -⟩ := hq
        go_wp2_with fail
        exact ⟨⟨i + 1, by omega, by go_num, HN2.out, h1⟩, by simp [intOf]; omega⟩
      · have HA := Lib.hid (at1_any x1 x2 k true he bx _ hbx)
        have HF := Lib.hid (atV_some HX.out (by simpa using he) HN.out).1
        clear he hbx
        go_wp2_with fail
        refine HA.out.mono ?_
        rintro e w1 hq
        have h1 := hS.makes hq
        obtain ⟨rfl, -⟩ := hq
        go_wp2_with fail
        go_ret
        exact ⟨by rw [← HQ.out, HF.out]; rfl, h1.below⟩
    · obtain rfl : i = n := by omega
      have HF := Lib.hid (atV_none (k := k) (l := l) (by have := HN.out; rwa [List.take_of_length_le (by rw [HL.out]; exact Nat.le_refl _)] at this)).1
      go_wp2_with fail
      go_ret
      exact ⟨by rw [← HQ.out, HF.out]; rfl, hS.below⟩

theorem St.isT {W w : World} {p : Nat} {v : Value} {l : List (κ × Int)} {R : Asn} (h : St W w (star (IsT p v l) R)) : St W w (star (pt p (.cells #[v] 58 (0, 0))) (star (Row 61 2 v l.length (tsV l)) R)) := h.eq (by unfold IsT; rw [star_assoc])
theorem St.toT {W w : World} {p : Nat} {v : Value} {l : List (κ × Int)} {R : Asn} (h : St W w (star (pt p (.cells #[v] 58 (0, 0))) (star (Row 61 2 v l.length (tsV l)) R))) : St W w (star (IsT p v l) R) := h.eq (by unfold IsT; rw [star_assoc])

set_option maxRecDepth 100000 in
theorem at_any (p : Nat) (v : Value) (l : List (κ × Int)) (k : κ) (q : Int) (hq : atV k l = q) {W w : World} {R : Asn} (h : St W w (star (IsT p v l) R)) :
    Calls Try.prog 25 #[.pointer (some ⟨p, 0, none⟩), kv k] w (Makes w (.int .i64 q)) := by
  have h0 := St.isT h
  obtain ⟨_, va, vc, rfl, _⟩ := id h0.right.rowSl
  have h1 := h0.alloc (.cells #[kv k] 3 (0, 0))
  have hc0 := h1.swap.cell 0 rfl
  have HI := Lib.hid (IndexFunc_any va l.length vc l rfl k q hq w.heap.size _ h1.right.right.rowSl (h1.cell 0 rfl))
  have hb := (St.start w).alloc (.cells #[kv k] 3 (0, 0))
  clear hq
  go_enter Try.func25, Try.ntmps25
  go_wp2_with fail
  refine HI.out.mono ?_
  rintro e w1 hq
  have h2 := hb.makes hq
  obtain ⟨rfl, -⟩ := hq
  go_wp2
  go_ret
  exact ⟨rfl, h2.below⟩

theorem infoT : (Try.prog.info? 61).map (·.size) = some 2 := by kernel_rfl
def zV : Value := .agg #[.int .i64 0, .int .i64 0]
theorem zeroT (w : World) : (zeroValue 61).run Try.prog w = .ok zV w := Try.zeroValue61 w
set_option maxRecDepth 100000 in
set_option maxHeartbeats 4000000 in
theorem Delete_any (v : Value) (l : List (κ × Int)) (n : Nat) (hn : l.length = n) (i : Nat) (hi : i < n) {W w : World} {R : Asn} (h : St W w (star (Row 61 2 v n (tsV l)) R)) :
    Calls Try.prog 29 #[v, .int .i64 i, .int .i64 ((i : Int) + 1)] w fun e w' => ∃ v', e = .returned v' ∧ St W w' (star (Row 61 2 v' (n - 1) (tsV (l.take i ++ l.drop (i + 1)))) R) := by
  obtain ⟨hxl, hv⟩ := h.row
  have hsl := h.rowSl
  rcases hv with ⟨rfl, h0, _⟩ | ⟨g, cap, cur, rfl, hnc, hcm, hcs, htk, hg⟩
  · omega
  have hcm2 : cap ≤ 9223372036854775807 := by simpa [maxLen] using hcm
  have U := Try.underlying56
  have hs0 := run_three (P := Try.prog) 56 61 2 U infoT (some ⟨g, 0, none⟩) n cap i (i + 1) n (i : Int) ((i : Int) + 1) (n : Int) rfl (by omega) rfl (by omega) (by omega) (by omega)
  generalize (Value.slice (if n = i then some (⟨g, 0, none⟩ : Addr) else (some (⟨g, 0, none⟩ : Addr)).map (·.add (i * 2))) (i + 1 - i) (n - i)) = x0 at hs0
  have hs1 := run_head (P := Try.prog) 56 61 2 U infoT g n cap i (by omega) (i : Int) rfl
  have hs2 := run_cut_l' (P := Try.prog) 56 61 2 U infoT (some ⟨g, 0, none⟩) n cap ((i : Int) + 1) (i + 1) (by omega) (by omega)
  have hcut := (hsl.drew).cut (i + 1) n (by omega) (Nat.le_refl _)
  obtain ⟨ua, uc, hu⟩ : ∃ ua uc, cutV (some ⟨g, 0, none⟩) cap (i + 1) n 2 = .slice ua (n - (i + 1)) uc := ⟨_, _, rfl⟩
  rw [hu] at hs2 hcut
  have hnews : ((tsV l).drop ((i + 1) * 2)).take ((n - (i + 1)) * 2) = tsV (l.drop (i + 1)) := by
    rw [tsV_drop, List.take_of_length_le]
    rw [tsV_length]; simp; omega
  rw [hnews] at hcut
  have hcl : (tsV (l.drop (i + 1))).length = (n - (i + 1)) * 2 := by rw [tsV_length]; simp; omega
  have hA := fun ty => run_append_spl (P := Try.prog) hg.drew 56 ty 61 2 U infoT 0 i cap ua (n - (i + 1)) uc _ hcut (tsV_one _) (by omega) (by rw [hcl, hcs]; omega)
  have h1 := St.spl hg.drew (0 + i * 2) (tsV (l.drop (i + 1)))
  have hsplen : (spl cur.toList (0 + i * 2) (tsV (l.drop (i + 1)))).length = cap * 2 := by rw [spl_len (by rw [hcl]; simp; omega)]; simp [hcs]
  have htake : (spl cur.toList (0 + i * 2) (tsV (l.drop (i + 1)))).take ((n - 1) * 2) = tsV (l.take i ++ l.drop (i + 1)) := by
    rw [spl_take (by rw [hcl]; omega) (by simp; omega), tsV_append, Nat.zero_add]
    have : cur.toList.take (i * 2) = (cur.toList.take (n * 2)).take (i * 2) := by rw [List.take_take]; congr 1; omega
    rw [this, htk, tsV_take]
  generalize hsp : spl cur.toList (0 + i * 2) (tsV (l.drop (i + 1))) = sp at *
  have hm1 : i + (n - (i + 1)) = n - 1 := by omega
  rw [hm1] at hA
  have hs3 := run_cut_lh' (P := Try.prog) 56 61 2 U infoT (some ⟨g, 0, none⟩) (n - 1) cap ((n - 1 : Nat) : Int) (n : Int) (n - 1) n rfl rfl (by omega) (by omega)
  rw [cut_tail g cap (n - 1) n 2 (by omega), show n - (n - 1) = 1 from by omega] at hs3
  have hC := fun ty => run_clear_spl (P := Try.prog) h1 56 ty 61 zV U zeroT (by intro u hu; simp [zV, Value.cells] at hu; rcases hu with rfl | rfl <;> rfl) ((n - 1) * 2) 1 (cap - (n - 1)) (by omega) (by simp [zV, Value.cells, hsplen]; omega)
  have h2 := St.spl h1 ((n - 1) * 2) (Builtin.zeroCells zV.cells 1).toList
  have hzl : (Builtin.zeroCells zV.cells 1).toList.length = 2 := by simp [size_zeroCells, zV, Value.cells]
  have hfin := St.mkRow (size := 2) (n := n - 1) (cap := cap) (xs := tsV (l.take i ++ l.drop (i + 1))) h2 (by omega) hcm (by rw [List.size_toArray, spl_len (by rw [hzl]; simp [hsplen]; omega)]; simp [hsplen]) (by
    show (spl sp.toArray.toList ((n - 1) * 2) _).take _ = _
    rw [spl_take_le (Nat.le_refl _) (by simp [hsplen]; omega)]
    exact htake)
  have hne : ((i : Int) == (i : Int) + 1) = false := by rw [beq_eq_false_iff_ne]; omega
  clear hnews hcl hcut hsl htk hxl h hsp htake hsplen hu hzl hn hm1
  generalize (Builtin.zeroCells zV.cells 1).toList = zs at *
  go_enter Try.func29, Try.ntmps29
  go_wp2_with fail
  refine wp_region_canon [0, 1, 2, 3, 4, 5, 6, 7] (by kernel_rfl) (by kernel_rfl) ?_
  simp only [pickOps, nthOp]
  go_wp2_with (at_builtin; first | refine wpList_append_run rfl (.tmp 22) (.tmp 25) 56 56 rfl (hA _) ?_ | refine wpList_clear_run rfl (.tmp 31) 56 rfl (hC _) ?_)
  simp only [Only]
  go_wp2_with (at_builtin; first | refine wpList_append_run rfl (.tmp 22) (.tmp 25) 56 56 rfl (hA _) ?_ | refine wpList_clear_run rfl (.tmp 31) 56 rfl (hC _) ?_)
  go_ret
  exact ⟨_, rfl, hfin⟩

def CPost (W : World) (p : Nat) (b : Bool) (l : List (κ × Int)) (R : Asn) (e : Ending) (w' : World) : Prop := e = .returned (.bool b) ∧ ∃ v, St W w' (star (IsT p v l) R)
theorem atP_lt {k : κ} {l : List (κ × Int)} (h : k ∈ keysOf l) : atP k l < l.length ∧ atV k l = (atP k l : Int) := by
  have : atP k l < l.length := by
    unfold atP
    rw [List.findIdx_lt_length]
    obtain ⟨x, hx, rfl⟩ := List.mem_map.1 h
    exact ⟨x, hx, by simp⟩
  exact ⟨this, by unfold atV; rw [if_pos this]⟩
theorem atV_no {k : κ} {l : List (κ × Int)} (h : k ∉ keysOf l) : atV k l = -1 := (atV_none (fun y hy e => h (by rw [← e]; exact List.mem_map_of_mem (f := (·.1)) hy))).1
theorem len_le {W w : World} {p : Nat} {v : Value} {l : List (κ × Int)} {R : Asn} (h : St W w (star (IsT p v l) R)) : l.length ≤ 9223372036854775807 := by
  obtain ⟨_, a, c, rfl, h1, h2, _⟩ := (St.isT h).right.rowSl
  have : c ≤ 9223372036854775807 := by simpa [maxLen] using h2
  omega

set_option maxRecDepth 100000 in
set_option maxHeartbeats 4000000 in
theorem Cancel_any (p : Nat) (v : Value) (l : List (κ × Int)) (k : κ) (b : Bool) (hb : decide (k ∈ keysOf l) = b) {W w : World} {R : Asn} (h : St W w (star (IsT p v l) R)) :
    Calls Try.prog 14 #[.pointer (some ⟨p, 0, none⟩), kv k] w (CPost W p b (cancelP k l) R) := by
  have hll := len_le h
  by_cases hk : k ∈ keysOf l
  · obtain rfl : true = b := by rw [← hb, decide_eq_true hk]
    obtain ⟨hi, hv⟩ := atP_lt hk
    have HC := Lib.hid (cancelP_eq_drop hk)
    have HA := Lib.hid (at_any p v l k _ hv h)
    rw [HC.out]
    have hlen : (l.take (atP k l) ++ l.drop (atP k l + 1)).length = l.length - 1 := by simp; omega
    clear HC hk hv hb
    generalize atP k l = i at *
    have h0 := St.isT h
    obtain ⟨_, va, vc, rfl, _⟩ := id h0.right.rowSl
    go_enter Try.func14, Try.ntmps14
    go_wp2_with fail
    refine HA.out.mono ?_
    rintro e w1 hq
    have h1 := h0.makes hq
    obtain ⟨rfl, -⟩ := hq
    have hc0 := h1.cell 0 rfl
    have HD := Lib.hid (Delete_any (.slice va l.length vc) l l.length rfl i hi h1.swap)
    go_wp2_with fail
    refine HD.out.mono ?_
    rintro e w2 ⟨v', rfl, h2⟩
    have h3 := h2.swap
    obtain ⟨_, a2, c2, rfl, _⟩ := id h2.rowSl
    have hd0 := h3.cell 0 rfl
    have hf0 := h3.free 0
    go_wp2
    go_ret
    refine ⟨rfl, .slice a2 (l.length - 1) c2, St.toT ?_⟩
    rw [hlen]
    exact h3.setCell 0 _
  · obtain rfl : false = b := by rw [← hb, decide_eq_false hk]
    have HA := Lib.hid (at_any p v l k _ (atV_no hk) h)
    rw [cancelP_none hk]
    clear hk hb
    have h0 := St.isT h
    go_enter Try.func14, Try.ntmps14
    go_wp2_with fail
    refine HA.out.mono ?_
    rintro e w1 hq
    have h1 := h0.makes hq
    obtain ⟨rfl, -⟩ := hq
    go_wp2
    go_ret
    exact ⟨rfl, _, St.toT h1⟩

theorem IsT_len_zero : (tsV ([] : List (κ × Int))) = [] := rfl
set_option maxRecDepth 100000 in
theorem New_any {W w : World} {R : Asn} (h : St W w R) : Calls Try.prog 9 #[] w fun e w' => ∃ p v, e = .returned (.pointer (some ⟨p, 0, none⟩)) ∧ St W w' (star (IsT p v []) R) := by
  have h1 := h.alloc (.cells #[.slice none 0 0] 58 (0, 0))
  go_enter Try.func9, Try.ntmps9
  go_wp2
  go_ret
  refine ⟨w.heap.size, .slice none 0 0, rfl, St.toT ?_⟩
  have h2 := h1.nilRow (e := 61) (size := 2)
  exact h2.swap

set_option maxRecDepth 100000 in
theorem Len_any (p : Nat) (v : Value) (l : List (κ × Int)) {W w : World} {R : Asn} (h : St W w (star (IsT p v l) R)) :
    Calls Try.prog 20 #[.pointer (some ⟨p, 0, none⟩)] w (Makes w (.int .i64 l.length)) := by
  have hll := len_le h
  have h0 := St.isT h
  obtain ⟨_, va, vc, rfl, _⟩ := id h0.right.rowSl
  have hc0 := h0.cell 0 rfl
  go_enter Try.func20, Try.ntmps20
  go_wp2
  go_ret
  exact ⟨rfl, Below.refl _ _⟩

def dueV : Option Int → Value
  | some d => .tuple #[.int .i64 d, .bool true]
  | none => .tuple #[.int .i64 0, .bool false]
set_option maxRecDepth 100000 in
set_option maxHeartbeats 4000000 in
theorem Due_any (p : Nat) (v : Value) (l : List (κ × Int)) (k : κ) (q : Value) (hq : dueV (dueP k l) = q) {W w : World} {R : Asn} (h : St W w (star (IsT p v l) R)) :
    Calls Try.prog 11 #[.pointer (some ⟨p, 0, none⟩), kv k] w (Makes w q) := by
  have hll := len_le h
  have hs0 := St.start w
  have HQ := Lib.hid hq
  clear hq
  by_cases hk : k ∈ keysOf l
  · obtain ⟨hi, hv⟩ := atP_lt hk
    obtain ⟨x, hx⟩ : ∃ x, l[atP k l]? = some x := ⟨_, List.getElem?_eq_getElem hi⟩
    have HD : Hid (dueP k l = some x.2) := Lib.hid (by rw [dueP_at, hx]; rfl)
    have HA := Lib.hid (at_any p v l k _ hv h)
    clear hk hv
    generalize atP k l = i at *
    have h0 := St.isT h
    obtain ⟨_, va, vc, rfl, _⟩ := id h0.right.rowSl
    obtain ⟨ab, ao, rfl, hel⟩ := el_at h0.right.rowSl hx
    have HE := Lib.hid hel
    obtain ⟨x1, x2⟩ := x
    clear hx hel
    have hlc : l.length ≤ vc := by obtain ⟨_, _, _, e, h1, _⟩ := h0.right.rowSl; cases e; exact h1
    go_enter Try.func11, Try.ntmps11
    go_wp2_with fail
    refine HA.out.mono ?_
    rintro e w1 hq
    have h1 := h0.makes hq
    have hs1 := hs0.makes hq
    obtain ⟨rfl, -⟩ := hq
    have hc0 := h1.cell 0 rfl
    obtain ⟨he0, he1⟩ := HE.out _ _ hs1
    try simp only at he0 he1
    have hil : (i : Int) < l.length := by omega
    go_wp2
    go_ret2
    exact ⟨by rw [← HQ.out, HD.out]; rfl, hs1.below⟩
  · have HD : Hid (dueP k l = none) := Lib.hid (dueP_none.2 hk)
    have HA := Lib.hid (at_any p v l k _ (atV_no hk) h)
    clear hk
    go_enter Try.func11, Try.ntmps11
    go_wp2_with fail
    refine HA.out.mono ?_
    rintro e w1 hq
    have hs1 := hs0.makes hq
    obtain ⟨rfl, -⟩ := hq
    go_wp2
    go_ret2
    exact ⟨by rw [← HQ.out, HD.out]; rfl, hs1.below⟩


end Go.Proofs.Ytedkkcbdhbbegaa.TmI
