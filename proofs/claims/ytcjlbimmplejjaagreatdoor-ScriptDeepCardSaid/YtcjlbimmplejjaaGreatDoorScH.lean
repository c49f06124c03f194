import Derived.BigRegion
import Derived.Test.YtcjlbimmplejjaaGreatDoorPathL
import Derived.Test.YtcjlbimmplejjaaGreatDoorStrs
import Derived.Test.YtcjlbimmplejjaaGreatDoorScD
namespace Go.Proofs.YtcjlbimmplejjaaGreatDoor.ScH
open Go Go.RowKit Go.Proofs Go.Proofs.YtcjlbimmplejjaaGreatDoor.Sep Go.Proofs.YtcjlbimmplejjaaGreatDoor.Reg Go.Proofs.YtcjlbimmplejjaaGreatDoor.Frame Go.Proofs.YtcjlbimmplejjaaGreatDoor.Strs Go.Proofs.YtcjlbimmplejjaaGreatDoor.Mp Go.Proofs.YtcjlbimmplejjaaGreatDoor.WdP Go.Proofs.YtcjlbimmplejjaaGreatDoor.WdT Go.Proofs.YtcjlbimmplejjaaGreatDoor.WdN Go.Proofs.YtcjlbimmplejjaaGreatDoor.ScP Go.Proofs.YtcjlbimmplejjaaGreatDoor.ScQ Go.Proofs.YtcjlbimmplejjaaGreatDoor.ScT Go.Proofs.YtcjlbimmplejjaaGreatDoor.ScA Go.Proofs.YtcjlbimmplejjaaGreatDoor.ScM Go.Proofs.YtcjlbimmplejjaaGreatDoor.ScS Go.Proofs.YtcjlbimmplejjaaGreatDoor.ScG Go.Proofs.YtcjlbimmplejjaaGreatDoor.ScD
open Go.Proofs.YtcjlbimmplejjaaGreatDoor.PathL (split_at)

theorem lns_at2 (x r : Tx) (h : ∀ a ∈ x, a ≠ 10) : lns (x ++ 10 :: r) = x :: lns r := by rw [lns_at, lns_none x h]; rfl
theorem count_eq : ∀ (n : Nat) (s : List UInt8), s.length < n → Lib.countFrom [10] n s + 1 = (lns s).length
  | 0, s, h => by omega
  | n + 1, s, h => by
    rcases split_at 10 s with hn | ⟨x, r, rfl, hx⟩
    · simp [Lib.countFrom, index_none 10 s hn, lns_none s hn]
    · have h3 : ((x.length : Int) == -1) = false := by simp
      have hd : (x ++ 10 :: r).drop (x.length + 1) = r := by simp
      have ih := count_eq n r (by simp at h; omega)
      simp only [Lib.countFrom, index_at 10 x r hx, h3, lns_at2 x r hx, List.length_cons, Int.toNat_natCast, List.length_nil, Nat.zero_add, hd]
      simp
      omega
theorem splitK_eq : ∀ (k : Nat) (s : List UInt8), (lns s).length = k + 1 → Lib.splitK [10] 0 k s = lns s
  | 0, s, h => by
    rcases split_at 10 s with hn | ⟨x, r, rfl, hx⟩
    · rw [lns_none s hn]; rfl
    · rw [lns_at2 x r hx] at h
      obtain ⟨y, ys, hy⟩ := lns_ne r
      rw [hy] at h; simp at h
  | k + 1, s, h => by
    rcases split_at 10 s with hn | ⟨x, r, rfl, hx⟩
    · rw [lns_none s hn] at h; simp at h
    · rw [lns_at2 x r hx] at h ⊢
      have h3 : ((x.length : Int) == -1) = false := by simp
      have hd : (x ++ 10 :: r).drop (x.length + 1) = r := by simp
      have ht : (x ++ 10 :: r).take x.length = x := by simp
      have ih := splitK_eq k r (by simpa using h)
      simp only [Lib.splitK, index_at 10 x r hx, h3, Int.toNat_natCast, List.length_cons, List.length_nil, Nat.zero_add, hd, Nat.add_zero, ht, ih]
      simp
theorem split_eq (s : List UInt8) : Lib.split s [10] = lns s := by
  unfold Lib.split
  have h := count_eq (s.length + 1) s (by omega)
  exact splitK_eq _ s (by unfold Lib.count; omega)

theorem splitB_lns (s : Tx) : (Lib.splitB ⟨#[10]⟩ 0 (Lib.countB ⟨s.toArray⟩ ⟨#[10]⟩) ⟨s.toArray⟩).map Value.string = strsV (lns s) := by
  have h := Lib.splitB_data ⟨#[10]⟩ 0 (Lib.countB ⟨s.toArray⟩ ⟨#[10]⟩) ⟨s.toArray⟩
  have h2 : Lib.splitK [10] 0 (Lib.countB ⟨s.toArray⟩ ⟨#[10]⟩) s = lns s := split_eq s
  have h3 : (Lib.splitB ⟨#[10]⟩ 0 (Lib.countB ⟨s.toArray⟩ ⟨#[10]⟩) ⟨s.toArray⟩).map (·.data.toList) = lns s := h.trans h2
  rw [strsV, ← h3, List.map_map]
  refine List.map_congr_left fun x _ => ?_
  cases x
  simp
theorem Split_any (s : Tx) (w : World) (hs : s.length ≤ 1000000) (hG : Gl w) : Calls Tryz.prog 24 #[.string ⟨s.toArray⟩, .string ⟨#[10]⟩] w fun e w' =>
    e = .returned (.slice (some ⟨w.heap.size, 0, none⟩) (lns s).length (lns s).length) ∧ w' = w.alloc (.cells (strsV (lns s)).toArray 9 (0, 0)) := by
  obtain ⟨m, hm⟩ := hG.1
  refine (Tryz.strings_Split ⟨s.toArray⟩ ⟨#[10]⟩ m w (by simp [ByteArray.size]; omega) hm (by decide)).mono ?_
  rintro e w' ⟨rfl, rfl⟩
  have h1 : Lib.countB ⟨s.toArray⟩ ⟨#[10]⟩ + 1 = (lns s).length := count_eq (s.length + 1) s (by omega)
  rw [h1]
  rw [splitB_lns]
  exact ⟨rfl, rfl⟩
theorem lns_le : ∀ (s : Tx), (lns s).length ≤ s.length + 1 ∧ ∀ x ∈ lns s, x.length ≤ s.length
  | [] => ⟨by simp [lns], by simp [lns]⟩
  | c :: r => by
    obtain ⟨y, ys, hy⟩ := lns_ne r
    have ih := lns_le r
    rw [hy] at ih
    by_cases hc : c = 10
    · subst hc
      rw [lns_end, hy]
      refine ⟨by simpa using ih.1, fun x hx => ?_⟩
      rcases List.mem_cons.1 hx with rfl | hx
      · simp
      · have := ih.2 x hx; simp; omega
    · rw [lns_cons c r y ys hc hy]
      refine ⟨by have := ih.1; simp at this ⊢; omega, fun x hx => ?_⟩
      rcases List.mem_cons.1 hx with rfl | hx
      · have := ih.2 y (by simp); simp; omega
      · have := ih.2 x (by simp [hx]); simp; omega
theorem lineP_deep {st : List Blk} {s : Tx} {n : Nat} {st' : List Blk} (h : lineP st s n = some st') (hd : st.length ≤ 9) : st'.length ≤ 9 := by
  rcases lineP_cases h with ⟨-, rfl⟩ | ⟨-, k, -, -, h1, rfl⟩ | ⟨-, -, b, c, q, rfl, rfl⟩ | ⟨-, -, -, x, b, q, -, rfl, rfl⟩
  · exact hd
  · simp; omega
  · simp at hd ⊢; omega
  · simpa using hd
theorem goP_deep : ∀ (l : List Tx) (i : Nat) (st st' : List Blk), goP l i st = .ok st' → st.length ≤ 9 → st'.length ≤ 9
  | [], _, _, _, h, hd => by simp [goP] at h; rw [← h]; exact hd
  | x :: l, i, st, st', h, hd => by
    simp only [goP] at h
    split at h
    · cases h
    · rename_i s1 h1
      exact goP_deep l _ _ _ h (lineP_deep h1 hd)
theorem goP_snoc {L : List Tx} {i : Nat} {st st' : List Blk} {y : Tx} (hy : L[i]? = some y) (hg : goP (L.take i) 0 st0 = .ok st) (hl : lineP st y (i + 1) = some st') : goP (L.take (i + 1)) 0 st0 = .ok st' := by
  have hil : i < L.length := (List.getElem?_eq_some_iff.1 hy).1
  rw [List.take_add_one, hy, goP_append, hg]
  simp only [Option.toList_some, goP, List.length_take, Nat.zero_add, Nat.min_eq_left (Nat.le_of_lt hil), hl]
theorem goP_bad {L : List Tx} {i : Nat} {st : List Blk} {y : Tx} (hy : L[i]? = some y) (hg : goP (L.take i) 0 st0 = .ok st) (hl : lineP st y (i + 1) = none) : goP L 0 st0 = .error (i + 1) := by
  have hil : i < L.length := (List.getElem?_eq_some_iff.1 hy).1
  have h1 := goP_append (L.take i) (L.drop i) 0 st0
  rw [List.take_append_drop, hg] at h1
  have h2 : L.drop i = y :: L.drop (i + 1) := by
    rw [List.drop_eq_getElem_cons hil]
    have := (List.getElem?_eq_some_iff.1 hy).2
    rw [this]
  rw [h1, h2]
  simp only [goP, List.length_take, Nat.zero_add, Nat.min_eq_left (Nat.le_of_lt hil), hl]

theorem finP_deep {pre : List (Blk × Value)} {b : Blk} {bv : Value} (h : pre ≠ []) : finP (.ok (stk (pre ++ [(b, bv)]))) = ([], b.line, 11) := by
  rw [stk_top]
  have : stk pre ≠ [] := by
    intro e
    have := congrArg List.length e
    rw [stk_len] at this
    exact h (List.eq_nil_of_length_eq_zero this)
  cases hq : stk pre with
  | nil => exact absurd hq this
  | cons c q => rfl
def PPst (W : World) (R : Asn) (t : Tx) (e : Ending) (w' : World) : Prop :=
  ∃ v : Value, e = .returned (.tuple #[v, .int .i64 ((parseP t).2.1 : Nat), .int .i64 ((parseP t).2.2 : Nat)]) ∧ St W w' (star (Row 34 4 v (parseP t).1.length (actsV (parseP t).1)) R)
set_option maxRecDepth 100000 in
set_option maxHeartbeats 16000000 in
theorem Parse_any {W w : World} {R : Asn} (hG : Gl W) (hE : Er W) (t : Tx) (ht : t.length ≤ 1000000) (h : St W w R) :
    Calls Tryz.prog 9 #[.string ⟨t.toArray⟩] w (PPst W R t) := by
  by_cases hbig : 65536 < t.length
  · have hbI : (65536 : Int) < t.length := by omega
    have HP : Hid (parseP t = ([], 0, 3)) := Lib.hid (by unfold parseP; rw [if_pos hbig])
    have HN := Lib.hid (h.nilRow (e := 34) (size := 4))
    clear h
    unfold PPst
    rw [HP.out]
    go_enter Tryz.func9, Tryz.ntmps9
    go_wp2
    refine bodyPost_ret (v := .tuple #[.slice none 0 0, .int .i64 0, .int .i64 3]) (by simp [results, Tryz.results9, go_sem]) rfl ⟨_, rfl, HN.out⟩
  have hbI : ¬ (65536 : Int) < t.length := by omega
  have HP : Hid (parseP t = finP (goP (lns t) 0 st0)) := Lib.hid (by unfold parseP; rw [if_neg hbig])
  have hll := lns_le t
  have HLE := Lib.hid hll.2
  have HSh := Lib.hid (shapes_any h)
  have HSp := Lib.hid fun w hG => Split_any t w ht hG
  obtain ⟨L, hL⟩ : ∃ L, lns t = L := ⟨_, rfl⟩
  obtain ⟨N, hN⟩ : ∃ N, L.length = N := ⟨_, rfl⟩
  rw [hL] at HP HSp HLE hll
  rw [hN] at HSp hll
  have hN1 := hll.1
  have HNN := Lib.hid hN
  have HG := Lib.hid hG
  have HE := Lib.hid hE
  obtain ⟨mb, hmb⟩ : ∃ b, w.heap.size = b := ⟨_, rfl⟩
  rw [hmb] at HSh
  clear h hL hN hll hG hE hmb hbig
  unfold PPst
  rw [HP.out]
  go_enter Tryz.func9, Tryz.ntmps9
  go_wp2_with fail
  refine HSh.out.mono ?_
  rintro e w1 ⟨rfl, h1⟩
  have h2 := h1.alloc (.cells #[.slice none 0 0, .int .i64 0, .int .i64 0, .int .i64 0] 52 (0, 0))
  obtain ⟨ob, hob⟩ : ∃ b, w1.heap.size = b := ⟨_, rfl⟩
  rw [hob] at h2
  clear h1 HSh
  go_upto_region 5 with fail
  clear hob
  generalize w1.alloc (.cells #[.slice none 0 0, .int .i64 0, .int .i64 0, .int .i64 0] 52 (0, 0)) = w2 at *
  have h3 := (St.mkRow (size := 4) (n := 1) (cap := 1) (xs := blV [(⟨[], 0, 0, 0⟩, .slice none 0 0)]) h2 (Nat.le_refl _) (by unfold maxLen; omega) rfl rfl).nilRow (e := 34) (size := 4)
  have h4 := lit_sl h3 L (by rw [HNN.out]; unfold maxLen; omega)
  have hGw := HG.out.st h3
  obtain ⟨lb, hlb⟩ : ∃ b, w2.heap.size = b := ⟨_, rfl⟩
  rw [hlb, HNN.out] at h4
  have HSp2 := Lib.hid (HSp.out w2 hGw)
  rw [hlb] at HSp2
  clear h2 h3 hGw HSp
  go_wp2_with fail
  refine HSp2.out.mono ?_
  rintro e w3 ⟨rfl, rfl⟩
  clear hlb HSp2
  generalize w2.alloc (.cells (strsV L).toArray 9 (0, 0)) = w3 at *
  have HSL : Hid (∀ w A, St W w (star (Row 9 1 (.slice (some ⟨lb, 0, none⟩) N N) N (strsV L)) A) → ∀ i x, L[i]? = some x → w.cell? ⟨lb, i, none⟩ = some (.string ⟨x.toArray⟩)) := Lib.hid fun w A h i x hx => by
    obtain ⟨ab, ao, e, hc⟩ := strs_at h.rowSl hx
    cases e
    have := hc w _ (St.start w)
    rwa [Nat.zero_add] at this
  have h5 : St W w3 (star (Row 52 4 (.slice (some ⟨ob, 0, none⟩) 1 1) 1 (blV ([] ++ [(⟨[], 0, 0, 0⟩, .slice none 0 0)]))) (star (Bks ([] ++ [(⟨[], 0, 0, 0⟩, .slice none 0 0)])) (star (Mp kS mb shM) (star (Row 9 1 (.slice (some ⟨lb, 0, none⟩) N N) N (strsV L)) (R))))) := h4.eq (by
    rw [List.nil_append, Bks_one]
    show star (Row 9 1 (.slice (some ⟨lb, 0, none⟩) N N) N (strsV L)) (star (Row 34 4 (.slice none 0 0) 0 (actsV [])) _) = _
    ac_rfl)
  clear h4
  go_wp2_with fail
  go_loopw [6, 20] (fun ov iv wr => ∃ (i : Nat) (pre : List (Blk × Value)) (b : Blk) (bv : Value) (P cap : Nat) (oa : Option Addr), i ≤ N ∧ iv = .int .i64 i ∧ ov = .slice oa (P + 1) cap ∧ pre.length = P ∧ P ≤ 8 ∧ Hid (goP (L.take i) 0 st0 = .ok (stk (pre ++ [(b, bv)]))) ∧ St W wr (star (Row 52 4 (.slice oa (P + 1) cap) (P + 1) (blV (pre ++ [(b, bv)]))) (star (Bks (pre ++ [(b, bv)])) (star (Mp kS mb shM) (star (Row 9 1 (.slice (some ⟨lb, 0, none⟩) N N) N (strsV L)) (R)))))) (fun _ iv _ => N - (intOf iv).toNat)
  case atStart => exact ⟨0, [], _, _, 0, 1, some ⟨ob, 0, none⟩, Nat.zero_le _, rfl, rfl, rfl, by omega, Lib.hid rfl, h5⟩
  case round =>
    obtain ⟨i, pre, b, bv, P, cap, oa, hi, rfl, rfl, hP, hP8, HGo, hS⟩ := hrel
    clear h5
    have hsinv := sinv_go _ _ _ _ sinv0 HGo.out
    have HOK : Hid (∀ x ∈ pre ++ [(b, bv)], OkB x.1) := Lib.hid fun x hx => hsinv.ok x.1 (by unfold stk; rw [List.mem_reverse]; exact List.mem_map_of_mem (f := (·.1)) hx)
    have HPL := Lib.hid hP
    clear hsinv hP
    by_cases hiN : i < N
    · have hiI : (i : Int) < N := by omega
      obtain ⟨y, hy⟩ : ∃ y, L[i]? = some y := ⟨_, List.getElem?_eq_getElem (by rw [HNN.out]; exact hiN)⟩
      have HY := Lib.hid hy
      have hyl := HLE.out y (List.mem_of_getElem? hy)
      have l0 := HSL.out wr _ (hS.right.right.right.eq (B := star (Row 9 1 (.slice (some ⟨lb, 0, none⟩) N N) N (strsV L)) R) rfl) i y hy
      have HLn := Lib.hid (line_any HG.out HE.out mb (.slice oa (P + 1) cap) pre b bv y (i + 1) (by omega) P HPL.out (by omega) HOK.out hS)
      rw [show ((i + 1 : Nat) : Int) = (i : Int) + 1 from by omega] at HLn
      clear hS hy
      go_wp2_with fail
      refine HLn.out.mono ?_
      rintro e w6 ⟨ov', bb, rfl, ⟨ms', hl, rfl, h6⟩ | ⟨hl, rfl, h6⟩⟩
      · have hne : ms' ≠ [] := by
          rintro rfl
          exact lineP_ne hl (by rw [stk_top]; simp) rfl
        obtain ⟨pre', ⟨b', bv'⟩, rfl⟩ := top_of hne
        obtain ⟨P', hP'⟩ : ∃ P', pre'.length = P' := ⟨_, rfl⟩
        have hgo := goP_snoc HY.out HGo.out hl
        have hd := goP_deep _ _ _ _ hgo (by decide)
        rw [stk_len] at hd
        have hlen : (pre' ++ [(b', bv')]).length = P' + 1 := by rw [List.length_append, hP']; rfl
        rw [hlen] at hd h6
        obtain ⟨oa', cap', rfl⟩ : ∃ a c, ov' = .slice a (P' + 1) c := by obtain ⟨_, a, c, hv, _⟩ := h6.rowSl; exact ⟨a, c, hv⟩
        have HG2 := Lib.hid hgo
        have HP2 := Lib.hid hP'
        clear HLn hne hl hgo hP' hlen l0
        go_wp2_with fail
        exact ⟨⟨i + 1, pre', b', bv', P', cap', oa', hiN, by go_num, rfl, HP2.out, by omega, HG2, h6⟩, by simp [intOf]; omega⟩
      · have HB : Hid (goP L 0 st0 = .error (i + 1)) := Lib.hid (goP_bad HY.out HGo.out hl)
        have HN := Lib.hid (h6.right.nilRow (e := 34) (size := 4))
        clear HLn hl l0 h6
        go_wp2
        refine bodyPost_ret (v := .tuple #[.slice none 0 0, .int .i64 ((i : Int) + 1), .int .i64 8]) (by simp [results, Tryz.results9, go_sem]) rfl ⟨.slice none 0 0, ?_, ?_⟩
        · rw [HB.out]; rfl
        · rw [HB.out]; exact HN.out
    · obtain rfl : N = i := by omega
      have HGL : Hid (goP L 0 st0 = .ok (stk (pre ++ [(b, bv)]))) := Lib.hid (by have := HGo.out; rwa [List.take_of_length_le (by rw [HNN.out]; exact Nat.le_refl _)] at this)
      obtain ⟨-, hrow⟩ := hS.row
      rcases hrow with ⟨-, h0, -, -⟩ | ⟨ob, cap0, cur, hv, hcap, hmx, hcs, hct, h7⟩
      · cases h0
      cases hv
      have hcl := top_cells HPL.out hct
      have HBK : Hid (Bks (pre ++ [(b, bv)]) = star (Bks pre) (Row 34 4 bv b.l.length (actsV b.l))) := Lib.hid (by rw [Bks_append, Bks_one])
      have c0 := h7.cell _ hcl.1
      have c1 := h7.cell _ hcl.2.1
      have c2 := h7.cell _ hcl.2.2.1
      have c3 := h7.cell _ hcl.2.2.2
      obtain ⟨ba, bn, bc, rfl⟩ : ∃ a n c, bv = .slice a n c := by
        have h8 := h7.right
        rw [HBK.out] at h8
        obtain ⟨_, a, c, hv, _⟩ := (h8.eq (B := star (Row 34 4 bv b.l.length (actsV b.l)) (star (Bks pre) (star (Mp kS mb shM) (star (Row 9 1 (.slice (some ⟨lb, 0, none⟩) N N) N (strsV L)) (R))))) (by ac_rfl)).rowSl
        exact ⟨a, _, c, hv⟩
      have h8 := h7.alloc (.cells #[.slice ba bn bc, .int .i64 (b.many : Nat), .int .i64 (b.times : Nat), .int .i64 (b.line : Nat)] 52 (0, 0))
      obtain ⟨b10, hb10⟩ : ∃ z, wr.heap.size = z := ⟨_, rfl⟩
      rw [hb10] at h8
      have HCL := Lib.hid hcl
      clear hS h7 hcl hct hcs
      go_upto_region 14 with fail
      clear hb10 c0 c1 c2 c3
      generalize wr.alloc (.cells #[.slice ba bn bc, .int .i64 (b.many : Nat), .int .i64 (b.times : Nat), .int .i64 (b.line : Nat)] 52 (0, 0)) = w7 at *
      have d1 := h8.cell 1 (v := .int .i64 (b.many : Nat)) rfl
      have d3 := h8.cell 3 (v := .int .i64 (b.line : Nat)) rfl
      by_cases hP0 : P = 0
      · subst hP0
        have hpre : pre = [] := List.eq_nil_of_length_eq_zero HPL.out
        subst hpre
        have hmI : (b.many : Int) = (b.many : Nat) := rfl
        by_cases hmany : 4096 < b.many
        · have hmanyI : (4096 : Int) < (b.many : Nat) := by omega
          have HFP : Hid (finP (goP L 0 st0) = ([], 0, 3)) := Lib.hid (by
            rw [HGL.out]
            show (if 4096 < b.many then _ else _) = _
            rw [if_pos hmany])
          have HN := Lib.hid (h8.right.right.right.right.right.nilRow (e := 34) (size := 4))
          clear h8 HCL hmI
          go_wp2
          refine bodyPost_ret (v := .tuple #[.slice none 0 0, .int .i64 0, .int .i64 3]) (by simp [results, Tryz.results9, go_sem]) rfl ⟨.slice none 0 0, ?_, ?_⟩
          · rw [HFP.out]; rfl
          · rw [HFP.out]; exact HN.out
        · have hmanyI : ¬ (4096 : Int) < (b.many : Nat) := by omega
          have HFP : Hid (finP (goP L 0 st0) = (b.l, 0, 0)) := Lib.hid (by
            rw [HGL.out]
            show (if 4096 < b.many then _ else _) = _
            rw [if_neg hmany])
          have e0 := h8.right.cell (0 * 4) (v := .slice ba bn bc) HCL.out.1
          rw [Nat.zero_mul] at e0
          have h9 := h8.right.right
          rw [HBK.out] at h9
          have HN := Lib.hid ((h9.eq (B := star (star (Bks []) (star (Mp kS mb shM) (Row 9 1 (.slice (some ⟨lb, 0, none⟩) N N) N (strsV L)))) (star (Row 34 4 (.slice ba bn bc) b.l.length (actsV b.l)) (R))) (by ac_rfl)).right)
          clear h8 h9 HCL hmI
          go_wp2
          refine bodyPost_ret (v := .tuple #[.slice ba bn bc, .int .i64 0, .int .i64 0]) (by simp [results, Tryz.results9, go_sem]) rfl ⟨.slice ba bn bc, ?_, ?_⟩
          · rw [HFP.out]; rfl
          · rw [HFP.out]; exact HN.out
      · have hPI : (0 : Int) < P := by omega
        have HFP : Hid (finP (goP L 0 st0) = ([], b.line, 11)) := Lib.hid (by
          rw [HGL.out]
          exact finP_deep (by rintro rfl; exact hP0 HPL.out.symm))
        have HN := Lib.hid fun n => (h8.right.right.right.right.right.nilRow (e := 34) (size := 4)).drewN n
        have HN2 := Lib.hid ((h8.right.right.right.right.right.nilRow (e := 34) (size := 4)).drew)
        clear h8 HCL
        go_upto_region 15 with fail
        go_big_region
        go_wp2
        refine bodyPost_ret (v := .tuple #[.slice none 0 0, .int .i64 (b.line : Nat), .int .i64 11]) (by simp [results, Tryz.results9, go_sem]) rfl ⟨.slice none 0 0, ?_, ?_⟩
        · rw [HFP.out]; rfl
        · rw [HFP.out]; exact HN2.out
end Go.Proofs.YtcjlbimmplejjaaGreatDoor.ScH
