import Derived.Test.YthaekkmnglhinaaTpX
import Derived.Test.YthaekkmnglhinaaTpG
import Derived.Test.YthaekkmnglhinaaRound
namespace Go.Proofs.Ythaekkmnglhinaa.TpY
open Go Go.RowKit Go.Proofs Go.Proofs.Ythaekkmnglhinaa.Sep Go.Proofs.Ythaekkmnglhinaa.Reg Go.Proofs.Ythaekkmnglhinaa.Frame Go.Proofs.Ythaekkmnglhinaa.Rng Go.Proofs.Ythaekkmnglhinaa.RngA Go.Proofs.Ythaekkmnglhinaa.RngB Go.Proofs.Ythaekkmnglhinaa.Held Go.Proofs.Ythaekkmnglhinaa.Round Go.Proofs.Ythaekkmnglhinaa.TpP Go.Proofs.Ythaekkmnglhinaa.TpA Go.Proofs.Ythaekkmnglhinaa.TpI Go.Proofs.Ythaekkmnglhinaa.TpJ Go.Proofs.Ythaekkmnglhinaa.TpK Go.Proofs.Ythaekkmnglhinaa.TpL Go.Proofs.Ythaekkmnglhinaa.TpM Go.Proofs.Ythaekkmnglhinaa.TpN Go.Proofs.Ythaekkmnglhinaa.TpO Go.Proofs.Ythaekkmnglhinaa.TpS Go.Proofs.Ythaekkmnglhinaa.TpT Go.Proofs.Ythaekkmnglhinaa.TpU Go.Proofs.Ythaekkmnglhinaa.TpV Go.Proofs.Ythaekkmnglhinaa.TpX Go.Proofs.Ythaekkmnglhinaa.TpG
attribute [local go_sem] Oper.semAt_some

/-- The cells of the call: where, which acts, the answer. -/
def Fr (bt bl br : Nat) (at' : Int) (aL : Option Addr) (lenL capL : Nat) (b : Bool) : Asn :=
  star (pt bt (.cells #[.int .u8 at'] 5 (0, 0))) (star (pt bl (.cells #[.slice aL lenL capL] 32 (0, 0))) (pt br (.cells #[.bool b] 4 (0, 0))))
def SI (gb nb rb p b1 b2 N : Nat) (l0 : List Pr) (F : Asn) (pre : List Int) : Asn := ex fun l' : List Pr =>
  star (pu ((pre = [] → l' = l0) ∧ l'.length ≤ 40 + 150 * pre.length)) (star (pt b1 (.cells #[.pointer (some ⟨p, 0, none⟩)] 24 (0, 0))) (star (pt b2 (.cells #[kS [116]] 9 (0, 0)))
    (star (Held gb 22 3 pre.length (pre.map kI)) (star (pt nb (.cells #[.int .i64 N] 3 (0, 0))) (star (pt rb (.cells #[.pointer (some ⟨p, 0, none⟩)] 24 (0, 0))) (star (IsR p l') F))))))
def SF (gb nb rb p b1 b2 N : Nat) (l0 : List Pr) (F : Asn) (pre : List Int) : Asn := if pre.length < N then SI gb nb rb p b1 b2 N l0 F pre else No
def SG (gb nb rb p b1 b2 N : Nat) (l0 : List Pr) (F : Asn) : Code → Asn
  | .exit 2 => SI gb nb rb p b1 b2 N l0 F ((ofP l0 [116]).take N)
  | _ => No
theorem St.toSI {W w : World} {gb nb rb p b1 b2 N : Nat} {l0 l' : List Pr} {F : Asn} {pre : List Int} {R : Asn} (h1 : pre = [] → l' = l0) (h2 : l'.length ≤ 40 + 150 * pre.length)
    (h : St W w (star (pt b1 (.cells #[.pointer (some ⟨p, 0, none⟩)] 24 (0, 0))) (star (pt b2 (.cells #[kS [116]] 9 (0, 0)))
    (star (Held gb 22 3 pre.length (pre.map kI)) (star (pt nb (.cells #[.int .i64 N] 3 (0, 0))) (star (pt rb (.cells #[.pointer (some ⟨p, 0, none⟩)] 24 (0, 0))) (star (IsR p l') (star F R)))))))) : St W w (star (SI gb nb rb p b1 b2 N l0 F pre) R) := by
  refine St.ex_iff.2 ⟨l', ?_⟩
  refine St.eq ?_ (star_assoc _ _ _).symm
  exact St.pu_iff.2 ⟨⟨h1, h2⟩, h.eq (by simp only [star_assoc])⟩
theorem St.ofSI {W w : World} {gb nb rb p b1 b2 N : Nat} {l0 : List Pr} {F : Asn} {pre : List Int} {R : Asn} (h : St W w (star (SI gb nb rb p b1 b2 N l0 F pre) R)) :
    ∃ l' : List Pr, (pre = [] → l' = l0) ∧ l'.length ≤ 40 + 150 * pre.length ∧ St W w (star (pt b1 (.cells #[.pointer (some ⟨p, 0, none⟩)] 24 (0, 0))) (star (pt b2 (.cells #[kS [116]] 9 (0, 0)))
    (star (Held gb 22 3 pre.length (pre.map kI)) (star (pt nb (.cells #[.int .i64 N] 3 (0, 0))) (star (pt rb (.cells #[.pointer (some ⟨p, 0, none⟩)] 24 (0, 0))) (star (IsR p l') (star F R))))))) := by
  obtain ⟨l', h⟩ := St.ex_iff.1 h
  obtain ⟨h1, h⟩ := St.pu_iff.1 (h.eq (star_assoc _ _ _))
  exact ⟨l', h1.1, h1.2, h.eq (by simp only [star_assoc])⟩
theorem most_N (most : Int) (h : (Lit.int .u8 most).wf = true) : ∃ N : Nat, 1 ≤ N ∧ N ≤ 50 ∧ wrap64 (1 + wrap64 (most.tmod 50)) = N := by
  simp [Lit.wf, IntKind.min, IntKind.max, IntKind.signed, IntKind.bits] at h
  have h1 : most.tmod 50 = most % 50 := Int.tmod_eq_emod_of_nonneg h.1
  refine ⟨(1 + most % 50).toNat, by omega, by omega, ?_⟩
  rw [h1]
  unfold wrap64
  omega
/-- The range, where the round's slots are the act's with some of them set. -/
theorem range_of2 {W w : World} {m : Nat} {g : Operand} {params : Array Tmp} {assign body : Code} {Q : Exit → Act → World → Prop} {a : Act} (f : Nat → Int → Array Value → Array Value) (p b1 b2 : Nat) (t : Tx) (L : List Int) (hl : L.length ≤ 1000000) (Φ : List Int → Asn) (Ψ : Code → Asn)
    (hg : a.eval g = .func (.func 33) #[] #[.pointer (some ⟨b1, 0, none⟩), .pointer (some ⟨b2, 0, none⟩)]) (hps : params.size = 2) (h : St W w (Φ []))
    (hcells : ∀ w, St W w (Φ []) → w.cell? ⟨b1, 0, none⟩ = some (.pointer (some ⟨p, 0, none⟩)) ∧ w.cell? ⟨b2, 0, none⟩ = some (kS t) ∧ Reads w p L t)
    (hassign : ∀ (i : Nat) (x : Int) l0 w (K : Act → World → Prop), K { tmps := f i x a.tmps, defers := [] } w → assign.wpIn (Fence.wide.inRound l0) m Try.prog (Exit.then K (fun _ _ _ => False)) { tmps := (params.zip #[.int .i64 i, .int .i64 x]).foldl (fun tmps (t, a) => tmps.setIfInBounds t a) a.tmps, defers := [] } w)
    (hround : ∀ pre x post, L = pre ++ x :: post → ∀ l0 busy C w2, St W w2 (star (pt l0 (.loop busy)) (star C (Φ pre))) → body.wpIn (Fence.wide.inRound l0) m Try.prog (RPost W l0 busy (star C (Φ (pre ++ [x]))) (fun c => star C (Ψ c))) { tmps := f pre.length x a.tmps, defers := [] } w2)
    (hdone : ∀ D w4, St W w4 (star (pt D (.deferred (some []))) (Φ L)) → Q .normal { a with defers := { target := .collected D, args := #[] } :: a.defers } w4)
    (hstop : ∀ D c w4, St W w4 (star (pt D (.deferred (some []))) (Ψ c)) → c.wpIn Fence.wide (m + 2) Try.prog Q { a with defers := { target := .collected D, args := #[] } :: a.defers } w4) :
    (Code.rangeFunc g params assign body).wpIn Fence.wide (m + 2) Try.prog Q a w :=
  range_of (fun i x => { tmps := f i x a.tmps, defers := [] }) p b1 b2 t L hl Φ Ψ hg hps h hcells hassign hround hdone hstop
set_option maxRecDepth 100000 in
set_option maxHeartbeats 8000000 in
theorem still_walk {W : World} (a0 : Option Addr) (len0 cap0 : Nat) (who : List Int) (hlen : who.length = len0) (hsl : Sl W 1 (.slice a0 len0 cap0) len0 (who.flatMap IntC.E)) (_ : ∀ x ∈ who, IntC.Ok x) (most : Int) (hmost : (Lit.int .u8 most).wf = true) (at' : Int) (_ : (Lit.int .u8 at').wf = true)
    (aL : Option Addr) (lenL capL : Nat) (xs : List TpG.Act) (hlenL : xs.length = lenL) (hslL : Sl W 3 (.slice aL lenL capL) lenL (xs.flatMap ActC.E)) (_ : ∀ x ∈ xs, ActC.Ok x) :
    Calls Try.prog 7 #[.slice a0 len0 cap0, .int .u8 most, .int .u8 at', .slice aL lenL capL] W (Law W emp) := by
  rw [IntC.map] at hsl
  have HSL := Lib.hid hsl
  have HLEN := Lib.hid hlen
  have HSLL := Lib.hid hslL
  have HLENL := Lib.hid hlenL
  clear hsl hlen hslL hlenL
  have h1 := ((St.start W).alloc (.cells #[.int .u8 at'] 5)).eq (star_emp _)
  have h2 := h1.alloc (.cells #[.slice aL lenL capL] 32)
  have h3 := h2.alloc (.cells #[.bool false] 4)
  simp only [World.size_alloc] at h2 h3
  refine (callsIn_wide (n := 3)).1 (callsIn_of_wp_marks Try.func7 rfl trivial ?_ rfl)
  simp only [Try.ntmps7, List.size_toArray, List.length_cons, List.length_nil, Nat.reduceAdd, Nat.reduceSub, Array.replicate_succ, Array.replicate_zero, List.push_toArray, List.append_toArray, List.nil_append, List.cons_append]
  gi_wp2_with fail
  have HG := Lib.hid (Great_any aL lenL capL xs HLENL.out _ (sl_later HSLL.out h3))
  refine ⟨trivial, callsIn_wide.2 (HG.out.mono ?_)⟩
  rintro e w1 ⟨b, hq, hsm⟩
  have h4 := h3.makes hq
  obtain ⟨rfl, -⟩ := hq
  have h5 := h4.eq (B := star (pt (W.heap.size + 1 + 1) (.cells #[.bool false] 4 (0, 0))) (star (pt W.heap.size (.cells #[.int .u8 at'] 5 (0, 0))) (pt (W.heap.size + 1) (.cells #[.slice aL lenL capL] 32 (0, 0))))) (by ac_rfl)
  obtain ⟨bt, hbt⟩ : ∃ b, W.heap.size = b := ⟨_, rfl⟩
  obtain ⟨bl, hbl⟩ : ∃ b, bt + 1 = b := ⟨_, rfl⟩
  obtain ⟨br, hbr⟩ : ∃ b, bl + 1 = b := ⟨_, rfl⟩
  rw [hbt, hbl, hbr] at h5 ⊢
  have HSM := Lib.hid hsm
  clear hsm h1 h2 h3 h4 HG hbt hbl hbr
  have HWK := Lib.hid (wakes_any w1)
  by_cases hearly : b = true ∨ 40 < len0
  · have hfin : ∀ w9, Makes w1 (.bool true) (.returned (.bool true)) w9 → St W w9 (star (pt br (.cells #[.bool false] 4 (0, 0))) (star (pt bt (.cells #[.int .u8 at'] 5 (0, 0))) (pt bl (.cells #[.slice aL lenL capL] 32 (0, 0))))) := fun w9 hq => h5.makes hq
    have HFIN := Lib.hid hfin
    clear hfin h5
    cases b
    · have hg : (40 : Int) < len0 := by rcases hearly with h | h; · cases h
                                        · omega
      clear hearly
      gi_wp2_with fail
      refine ⟨trivial, callsIn_wide.2 (HWK.out.mono ?_)⟩
      rintro e w9 hq
      obtain rfl := hq.1
      have h6 := HFIN.out _ hq
      have hc6 := h6.cell 0 rfl
      have hf6 := h6.free 0
      have h7 := h6.setCell 0 (.bool true)
      gi_wp2_with fail
      have hrd := h7.cell 0 rfl
      exact ⟨.bool true, by simp [results, Try.results7, go_sem, hrd], rfl, h7.forget⟩
    · clear hearly
      gi_wp2_with fail
      refine ⟨trivial, callsIn_wide.2 (HWK.out.mono ?_)⟩
      rintro e w9 hq
      obtain rfl := hq.1
      have h6 := HFIN.out _ hq
      have hc6 := h6.cell 0 rfl
      have hf6 := h6.free 0
      have h7 := h6.setCell 0 (.bool true)
      gi_wp2_with fail
      have hrd := h7.cell 0 rfl
      exact ⟨.bool true, by simp [results, Try.results7, go_sem, hrd], rfl, h7.forget⟩
  · obtain ⟨rfl, hle⟩ : b = false ∧ len0 ≤ 40 := by
      refine ⟨?_, by omega⟩
      cases b
      · rfl
      · exact absurd (Or.inl rfl) hearly
    have hg : ¬ (40 : Int) < len0 := by omega
    have hx150 := (HSM.out rfl).1
    clear hearly HSM HWK
    have HN := Lib.hid (New_any h5)
    gi_wp2_with fail
    refine ⟨trivial, callsIn_wide.2 (HN.out.mono ?_)⟩
    rintro e w2 ⟨p, rfl, h6⟩
    have h7 := h6.alloc (.cells #[.pointer (some ⟨p, 0, none⟩)] 24)
    clear HN h5
    gi_wp2_with fail
    generalize w2.heap.size = rb at *
    gi_loopw [10, 11] (fun sv iv wr => ∃ (i : Nat) (l : List Pr), i ≤ len0 ∧ iv = .int .i64 i ∧ l.length ≤ i ∧ St W wr (star (Row 3 1 sv (ofP l [116]).length ((ofP l [116]).map kI)) (star (IsR p l) (star (pt rb (.cells #[.pointer (some ⟨p, 0, none⟩)] 24 (0, 0))) (Fr bt bl br at' aL lenL capL false))))) (fun _ iv _ => len0 - (intOf iv).toNat)
    case atStart => exact ⟨0, [], Nat.zero_le _, rfl, Nat.le_refl _, (h7.nilRow (e := 3) (size := 1)).eq (by show star (Row _ _ _ _ _) _ = star (Row _ _ _ 0 []) _; unfold Fr; ac_rfl)⟩
    case round =>
      obtain ⟨i, l, hi, rfl, hll, hS⟩ := hrel
      obtain ⟨_, va, vk, rfl, _⟩ := id hS.rowSl
      have HOL : Hid ((ofP l [116]).length ≤ 40) := Lib.hid (Nat.le_trans (ofP_le l [116]) (by omega))
      by_cases hin : i < len0
      · obtain ⟨x, hx⟩ : ∃ x, who[i]? = some x := ⟨_, List.getElem?_eq_getElem (by rw [HLEN.out]; exact hin)⟩
        obtain ⟨ab, ao, rfl, hel⟩ := elI HSL.out hx
        have he := hel _ _ hS
        have hinI : (i : Int) < len0 := by omega
        have hrb := hS.right.right.cell 0 rfl
        have HA := Lib.hid (Add_any p l (by omega) [116] x ((hS.drew).eq (B := star (IsR p l) (star (Row 3 1 (.slice va (ofP l [116]).length vk) (ofP l [116]).length ((ofP l [116]).map kI)) (star (pt rb (.cells #[.pointer (some ⟨p, 0, none⟩)] 24 (0, 0))) (Fr bt bl br at' aL lenL capL false)))) (by ac_rfl)))
        have hel2 := fun w A h => hel w A h
        have HEL := Lib.hid hel2
        clear hel hx hel2 h7
        gi_wp2_with fail
        refine wpIn_wide.2 (wp_region_canon [0, 1, 2, 3, 4, 5, 6] (by kernel_rfl) (by kernel_rfl) ?_)
        simp only [pickOps, nthOp]
        go_wp2_with fail
        refine HA.out.mono ?_
        rintro e w4 ⟨rfl, h8⟩
        have he2 := HEL.out _ _ h8
        by_cases hm : ([116], x) ∈ l
        · rw [if_pos hm]
          have e1 : addP l [116] x = l := if_pos hm
          rw [e1] at h8
          clear e1 hm
          go_wp2_with fail
          simp only [Only]
          gi_wp2_with fail
          exact ⟨⟨i + 1, l, hin, by go_num, by omega, h8.eq (by ac_rfl)⟩, by simp [intOf]; omega⟩
        · rw [if_neg hm]
          have HO2 : Hid (ofP (addP l [116] x) [116] = ofP l [116] ++ [x]) := Lib.hid (by unfold addP; rw [if_neg hm, ofP_append, ofP_one, if_pos rfl])
          have hle2 := addP_le l [116] x
          clear hm
          generalize addP l [116] x = l2 at *
          generalize hoP : ofP l [116] = L at *
          generalize hm : L.length = m at *
          have hm40 := HOL.out
          obtain ⟨i0, hi0, hz0, hz1, hz2⟩ := info_parts infoI
          have U := Try.underlying22
          have h9 := h8.eq (B := star (Row 3 1 (.slice va m vk) m (L.map kI)) (star (IsR p l2) (star (pt rb (.cells #[.pointer (some ⟨p, 0, none⟩)] 24 (0, 0))) (Fr bt bl br at' aL lenL capL false)))) (by ac_rfl)
          have h10 := h9.alloc (.cells #[.int .i64 x] 3)
          have hone := litI (l := [x]) rfl (by simp) h10
          have h11 := h10.swap
          have HM := Lib.hid hm
          clear HA hS h8 h10 hoP hm
          go_wp2_with fail
          simp only [Only]
          gi_wp2_with (gi_at_builtin; refine wpListIn_append_Sl rfl (.tmp 39) (.tmp 44) 22 rfl 3 i0 (.int .i64 0) 1 8 U hi0 hz0 hz1 hz2 rfl _ m (L.map kI) rfl h11 _ 1 ([x].map kI) rfl hone (oneI _) (by unfold maxLen; omega) (by omega) ?_; intro v9 w9 hS9 hv9)
          have e3 : L.map kI ++ [x].map kI = (L ++ [x]).map kI := by simp
          have e4 : (L ++ [x]).length = m + 1 := by simp [HM.out]
          refine ⟨⟨i + 1, l2, hin, by go_num, by omega, ?_⟩, by simp [intOf]; omega⟩
          rw [HO2.out, e4, ← e3]
          exact (hS9.eq (B := star (pt w4.heap.size (.cells #[.int .i64 x] 3 (0, 0))) (star (Row 3 1 v9 (m + 1) (L.map kI ++ [x].map kI)) (star (IsR p l2) (star (pt rb (.cells #[.pointer (some ⟨p, 0, none⟩)] 24 (0, 0))) (Fr bt bl br at' aL lenL capL false))))) (by ac_rfl)).right
      · obtain rfl : i = len0 := by omega
        obtain ⟨N, hN1, hN2, hN⟩ := most_N most hmost
        have g1 := hS.alloc (.cells #[.int .i64 N] 3)
        have g2 := g1.alloc (.cells #[.slice none 0 0] 22)
        simp only [World.size_alloc] at g2
        have hrb := g2.right.right.right.right.cell 0 rfl
        have HA := Lib.hid (Of_any p [116] g2)
        have hlen2 : l.length ≤ 40 := by omega
        generalize hoP : ofP l [116] = L at *
        generalize hmL : L.length = m at *
        have HMN := Lib.hid hN
        clear hS g1 h7
        gi_wp2_with fail
        refine ⟨trivial, callsIn_wide.2 (HA.out.mono ?_)⟩
        rintro e w3 ⟨c1, c2, rfl, g3⟩
        have HA2 := Lib.hid (Of_any p [116] g3)
        have hN : ∀ f g h, (binOp .eql 50 (.func f g h) .nilFunc).run Try.prog w3 = .ok (.bool false) w3 := by intro f g h; rfl
        obtain ⟨nb, hnb⟩ : ∃ b, wr.heap.size = b := ⟨_, rfl⟩
        obtain ⟨gb, hgb⟩ : ∃ b, nb + 1 = b := ⟨_, rfl⟩
        rw [hnb, hgb] at g3 HA2 ⊢
        have hrb := g3.right.right.right.right.right.right.cell 0 rfl
        clear HA hnb hgb g2
        gi_wp2_with fail
        refine ⟨trivial, callsIn_wide.2 (HA2.out.mono ?_)⟩
        rintro e w4 ⟨b1, b2, rfl, g4⟩
        clear HA2 hN
        gi_wp2_with fail
        obtain ⟨G, hG⟩ : ∃ G, star (pt c1 (.cells #[.pointer (some ⟨p, 0, none⟩)] 24 (0, 0))) (star (pt c2 (.cells #[kS [116]] 9 (0, 0))) (Row 3 1 (.slice va m vk) m (L.map kI))) = G := ⟨_, rfl⟩
        have HG := Lib.hid hG
        have hl150 : lenL ≤ 150 := by rw [← HLENL.out]; exact hx150
        have hL40 : L.length ≤ 40 := by rw [hmL]; exact HOL.out
        have HOP := Lib.hid hoP
        have HML := Lib.hid hmL
        have g5 : St W w4 (SF gb nb rb p b1 b2 N l (star G (Fr bt bl br at' aL lenL capL false)) []) := by
          unfold SF
          rw [if_pos (by simp; omega)]
          have h8 := g4.eq (B := star (pt gb (.cells #[.slice none 0 0] 22 (0, 0))) (star (pt b1 (.cells #[.pointer (some ⟨p, 0, none⟩)] 24 (0, 0))) (star (pt b2 (.cells #[kS [116]] 9 (0, 0))) (star (pt nb (.cells #[.int .i64 N] 3 (0, 0))) (star (pt rb (.cells #[.pointer (some ⟨p, 0, none⟩)] 24 (0, 0))) (star (IsR p l) (star G (Fr bt bl br at' aL lenL capL false)))))))) (by rw [← hG]; ac_rfl)
          have h9 := St.toHeld (h8.nilRow (e := 3) (size := 1)).swap
          rw [← star_emp (SI gb nb rb p b1 b2 N l (star G (Fr bt bl br at' aL lenL capL false)) [])]
          exact St.toSI (fun _ => rfl) (by simp; omega) (h9.eq (by show star (Held _ _ _ 0 []) _ = _; rw [star_emp]; ac_rfl))
        clear g4 g3 hG hoP hmL hrb
        refine range_of2 (m := 1) (fun i x t => (((t.setIfInBounds 55 (.int .i64 i)).setIfInBounds 56 (.int .i64 x)).setIfInBounds 14 (.int .i64 i)).setIfInBounds 15 (.int .i64 x)) p b1 b2 [116] L (by omega) (SF gb nb rb p b1 b2 N l (star G (Fr bt bl br at' aL lenL capL false))) (SG gb nb rb p b1 b2 N l (star G (Fr bt bl br at' aL lenL capL false))) rfl rfl g5 ?cells ?assign ?round ?done ?stop
        case cells =>
          intro w5 h5
          unfold SF at h5
          rw [if_pos (by simp; omega), ← star_emp (SI gb nb rb p b1 b2 N l (star G (Fr bt bl br at' aL lenL capL false)) [])] at h5
          obtain ⟨l', h51, _, h7⟩ := St.ofSI h5
          have h6 := reads_of (h7.right.right.right.right.right) [116]
          rw [h51 rfl, HOP.out] at h6
          exact ⟨h7.cell 0 rfl, h7.right.cell 0 rfl, h6⟩
        case assign =>
          rintro i x l0 w5 K hK
          gi_wp2_with fail
          exact hK
        case round =>
          rintro pre k post hx0 l0 busy C w5 h5
          have hx := Lib.hid hx0
          clear hx0
          simp only [List.setIfInBounds_toArray, List.set_cons_succ, List.set_cons_zero]
          by_cases hpm : pre.length < N
          · unfold SF at h5
            rw [if_pos hpm] at h5
            obtain ⟨l', _, hl', h6⟩ := St.ofSI (h5.eq (B := star (SI gb nb rb p b1 b2 N l (star G (Fr bt bl br at' aL lenL capL false)) pre) (star (pt l0 (.loop busy)) C)) (by ac_rfl))
            obtain ⟨ov, h7⟩ := St.held (R := star (pt nb (.cells #[.int .i64 N] 3 (0, 0))) (star (pt rb (.cells #[.pointer (some ⟨p, 0, none⟩)] 24 (0, 0))) (star (IsR p l') (star (pt b1 (.cells #[.pointer (some ⟨p, 0, none⟩)] 24 (0, 0))) (star (pt b2 (.cells #[kS [116]] 9 (0, 0))) (star (star G (Fr bt bl br at' aL lenL capL false)) (star (pt l0 (.loop busy)) C))))))) (h6.eq (by ac_rfl))
            obtain ⟨_, va', vk', rfl, _⟩ := id h7.right.rowSl
            have hgb0 := h7.cell 0 rfl
            have hlen : pre.length ≤ 50 := by omega
            have h9 := h7.alloc (.cells #[.int .i64 k] 3)
            have hone := litI (l := [k]) rfl (by simp) h9
            have h10 := (h9.right).eq (B := star (Row 3 1 (.slice va' pre.length vk') pre.length (pre.map kI)) (star (pt gb (.cells #[.slice va' pre.length vk'] 22 (0, 0))) (star (IsR p l') (star (pt bt (.cells #[.int .u8 at'] 5 (0, 0))) (star (pt bl (.cells #[.slice aL lenL capL] 32 (0, 0))) (star (pt br (.cells #[.bool false] 4 (0, 0))) (star (pt rb (.cells #[.pointer (some ⟨p, 0, none⟩)] 24 (0, 0))) (star (pt nb (.cells #[.int .i64 N] 3 (0, 0))) (star (pt b1 (.cells #[.pointer (some ⟨p, 0, none⟩)] 24 (0, 0))) (star (pt b2 (.cells #[kS [116]] 9 (0, 0))) (star (G) (star (pt l0 (.loop busy)) C)))))))))))) (by unfold Fr; ac_rfl)
            obtain ⟨i0, hi0, hz0, hz1, hz2⟩ := info_parts infoI
            have U := Try.underlying22
            have hdd : ((pre.length : Int) != (pre.length : Int)) = false := by simp
            have HPM : Hid (pre.length < N) := Lib.hid hpm
            have HPL : Hid ((pre ++ [k]).length = pre.length + 1) := Lib.hid (by simp)
            have HPM2 : Hid ((pre ++ [k]).map kI = pre.map kI ++ [k].map kI) := Lib.hid (by simp)
            clear hpm h5 h6 h9
            by_cases hat : (pre.length : Int) = wrap64 (at'.tmod 40)
            · have hatb : ((pre.length : Int) == wrap64 (at'.tmod 40)) = true := by simpa using hat
              clear hat
              gi_wp2_with (gi_at_builtin; refine wpListIn_append_Sl rfl (.tmp 61) (.tmp 63) 22 rfl 3 i0 (.int .i64 0) 1 8 U hi0 hz0 hz1 hz2 rfl _ pre.length (pre.map kI) rfl h10 _ 1 ([k].map kI) rfl hone (oneI _) (by unfold maxLen; omega) (by omega) ?_; intro v9 w9 hS9 hv9; obtain ⟨_, a9, c9, rfl, _⟩ := id hS9.rowSl; have hc9 := hS9.swap.cell 0 rfl; have hf9 := hS9.swap.free 0; have h11 := St.eq (B := star (IsR p l') (star (pt bt (.cells #[.int .u8 at'] 5 (0, 0))) (star (pt bl (.cells #[.slice aL lenL capL] 32 (0, 0))) (star (pt br (.cells #[.bool false] 4 (0, 0))) (star (pt rb (.cells #[.pointer (some ⟨p, 0, none⟩)] 24 (0, 0))) (star (pt nb (.cells #[.int .i64 N] 3 (0, 0))) (star (pt gb (.cells #[.slice a9 (pre.length + 1) c9] 22 (0, 0))) (star (Row 3 1 (.slice a9 (pre.length + 1) c9) (pre.length + 1) (pre.map kI ++ [k].map kI)) (star (pt b1 (.cells #[.pointer (some ⟨p, 0, none⟩)] 24 (0, 0))) (star (pt b2 (.cells #[kS [116]] 9 (0, 0))) (star (G) (star (pt l0 (.loop busy)) C)))))))))))) (hS9.swap.setCell 0 (.slice a9 (pre.length + 1) c9)) (by show star (pt gb (.cells #[.slice a9 (pre.length + 1) c9] _ _)) _ = _; ac_rfl); have hbt := h11.right.cell 0 rfl; have hbl := h11.right.right.cell 0 rfl)
              gi_loopw [16] (fun jv wr => ∃ (j : Nat) (l2 : List Pr), j ≤ lenL ∧ jv = .int .i64 j ∧ l2.length ≤ l'.length + j ∧ St W wr (star (IsR p l2) (star (pt bt (.cells #[.int .u8 at'] 5 (0, 0))) (star (pt bl (.cells #[.slice aL lenL capL] 32 (0, 0))) (star (pt br (.cells #[.bool false] 4 (0, 0))) (star (pt rb (.cells #[.pointer (some ⟨p, 0, none⟩)] 24 (0, 0))) (star (pt nb (.cells #[.int .i64 N] 3 (0, 0))) (star (pt gb (.cells #[.slice a9 (pre.length + 1) c9] 22 (0, 0))) (star (Row 3 1 (.slice a9 (pre.length + 1) c9) (pre.length + 1) (pre.map kI ++ [k].map kI)) (star (pt b1 (.cells #[.pointer (some ⟨p, 0, none⟩)] 24 (0, 0))) (star (pt b2 (.cells #[kS [116]] 9 (0, 0))) (star (G) (star (pt l0 (.loop busy)) C))))))))))))) (fun jv _ => lenL - (intOf jv).toNat)
              case atStart => exact ⟨0, l', Nat.zero_le _, rfl, Nat.le_refl _, h11⟩
              case round =>
                obtain ⟨j, l2, hj, rfl, hll2, h12⟩ := hrel
                have hbl := h12.right.right.cell 0 rfl
                have hrb := h12.right.right.right.right.cell 0 rfl
                by_cases hjn : j < lenL
                · obtain ⟨x, hx⟩ : ∃ x, xs[j]? = some x := ⟨_, List.getElem?_eq_getElem (by rw [HLENL.out]; exact hjn)⟩
                  obtain ⟨ab, ao, rfl, hel⟩ := act_at_all HSLL.out hx
                  obtain ⟨xd, xt, xk⟩ := x
                  have he0 := hel _ _ h12 0 _ rfl
                  have he2 := hel _ _ h12 2 _ rfl
                  simp only [Nat.add_zero] at he0
                  have hjnI : (j : Int) < lenL := by omega
                  clear hel hx h11 h10 h7
                  have hl2k : l2.length ≤ 1000000 := by omega
                  by_cases hd0 : xd = 0
                  · subst hd0
                    have HA := Lib.hid (Add_any p l2 hl2k [116] xk h12.drew)
                    gi_wp2_with fail
                    refine wpIn_round_canon [0, 1, 2, 3, 4, 5, 6] (by kernel_rfl) (by kernel_rfl) ?_
                    simp only [pickOps, nthOp]
                    go_wp2_with fail
                    refine HA.out.mono ?_
                    rintro e w13 ⟨rfl, h13⟩
                    generalize (if ([116], xk) ∈ l2 then (5 : Int) else 0) = rv
                    go_wp2_with fail
                    simp only [Only]
                    gi_wp2_with fail
                    exact ⟨⟨j + 1, _, hjn, by go_num, by have := addP_le l2 [116] xk; omega, h13⟩, by simp [intOf]; omega⟩
                  · have hd0b : (xd == 0) = false := by simpa using hd0
                    by_cases hd1 : xd = 1
                    · subst hd1
                      have HA := Lib.hid (Drop_any p l2 hl2k [116] xk h12.drew)
                      gi_wp2_with fail
                      refine wpIn_round_canon [0, 1, 2, 3, 4, 5, 6] (by kernel_rfl) (by kernel_rfl) ?_
                      simp only [pickOps, nthOp]
                      go_wp2_with fail
                      refine HA.out.mono ?_
                      rintro e w13 ⟨rfl, h13⟩
                      go_wp2_with fail
                      simp only [Only]
                      gi_wp2_with fail
                      exact ⟨⟨j + 1, _, hjn, by go_num, by have : (dropP l2 [116] xk).length ≤ l2.length := List.length_filter_le _ _; omega, h13⟩, by simp [intOf]; omega⟩
                    · have hd1b : (xd == 1) = false := by simpa using hd1
                      by_cases hd2 : xd = 2
                      · subst hd2
                        have HA := Lib.hid (DropAll_any p l2 hl2k xk h12.drew)
                        gi_wp2_with fail
                        refine wpIn_round_canon [0, 1, 2, 3, 4, 5, 6] (by kernel_rfl) (by kernel_rfl) ?_
                        simp only [pickOps, nthOp]
                        go_wp2_with fail
                        refine HA.out.mono ?_
                        rintro e w13 ⟨a13, c13, rfl, h13⟩
                        go_wp2_with fail
                        simp only [Only]
                        gi_wp2_with fail
                        exact ⟨⟨j + 1, _, hjn, by go_num, by have : (dropAllP l2 xk).length ≤ l2.length := List.length_filter_le _ _; omega, h13.right⟩, by simp [intOf]; omega⟩
                      · have hd2b : (xd == 2) = false := by simpa using hd2
                        gi_wp2_with fail
                        exact ⟨⟨j + 1, _, hjn, by go_num, by omega, h12⟩, by simp [intOf]; omega⟩
                · obtain rfl : lenL = j := by omega
                  have hgb := h12.right.right.right.right.right.right.cell 0 rfl
                  have hnb := h12.right.right.right.right.right.cell 0 rfl
                  by_cases hq : pre.length + 1 = N
                  · have hqe : ((pre.length + 1 : Nat) : Int) = (N : Int) := by omega
                    have HQN := Lib.hid hq
                    clear hq
                    gi_wp2_with fail
                    have et : L.take N = pre ++ [k] := by rw [hx.out, ← HQN.out, List.take_length_add_append]; rfl
                    show St W _ (star (pt l0 (.loop busy)) (star C (SG gb nb rb p b1 b2 N l (star G (Fr bt bl br at' aL lenL capL false)) (.exit 2))))
                    unfold SG
                    rw [HOP.out, et]
                    have h20 := St.toHeld (h12.eq (B := star (pt gb (.cells #[.slice a9 (pre.length + 1) c9] 22 (0, 0))) (star (Row 3 1 (.slice a9 (pre.length + 1) c9) (pre.length + 1) (pre.map kI ++ [k].map kI)) (star (IsR p l2) (star (pt bt (.cells #[.int .u8 at'] 5 (0, 0))) (star (pt bl (.cells #[.slice aL lenL capL] 32 (0, 0))) (star (pt br (.cells #[.bool false] 4 (0, 0))) (star (pt rb (.cells #[.pointer (some ⟨p, 0, none⟩)] 24 (0, 0))) (star (pt nb (.cells #[.int .i64 N] 3 (0, 0))) (star (pt b1 (.cells #[.pointer (some ⟨p, 0, none⟩)] 24 (0, 0))) (star (pt b2 (.cells #[kS [116]] 9 (0, 0))) (star (G) (star (pt l0 (.loop busy)) C)))))))))))) (by ac_rfl))
                    have h21 := St.toSI (gb := gb) (nb := nb) (rb := rb) (p := p) (b1 := b1) (b2 := b2) (N := N) (l0 := l) (F := star G (Fr bt bl br at' aL lenL capL false)) (pre := pre ++ [k]) (l' := l2) (R := star (pt l0 (.loop busy)) C) (fun h => by simp at h) (by rw [HPL.out]; omega) (h20.eq (by unfold Fr; rw [HPL.out, HPM2.out]; ac_rfl))
                    exact h21.eq (by ac_rfl)
                  · have hqe : ¬ ((pre.length + 1 : Nat) : Int) = (N : Int) := by omega
                    have HQN := Lib.hid hq
                    clear hq
                    gi_wp2_with fail
                    show St W _ (star (pt l0 (.loop busy)) (star C (SF gb nb rb p b1 b2 N l (star G (Fr bt bl br at' aL lenL capL false)) (pre ++ [k]))))
                    unfold SF
                    rw [if_pos (by simp; have := HPM.out; have := HQN.out; omega)]
                    have h20 := St.toHeld (h12.eq (B := star (pt gb (.cells #[.slice a9 (pre.length + 1) c9] 22 (0, 0))) (star (Row 3 1 (.slice a9 (pre.length + 1) c9) (pre.length + 1) (pre.map kI ++ [k].map kI)) (star (IsR p l2) (star (pt bt (.cells #[.int .u8 at'] 5 (0, 0))) (star (pt bl (.cells #[.slice aL lenL capL] 32 (0, 0))) (star (pt br (.cells #[.bool false] 4 (0, 0))) (star (pt rb (.cells #[.pointer (some ⟨p, 0, none⟩)] 24 (0, 0))) (star (pt nb (.cells #[.int .i64 N] 3 (0, 0))) (star (pt b1 (.cells #[.pointer (some ⟨p, 0, none⟩)] 24 (0, 0))) (star (pt b2 (.cells #[kS [116]] 9 (0, 0))) (star (G) (star (pt l0 (.loop busy)) C)))))))))))) (by ac_rfl))
                    have h21 := St.toSI (gb := gb) (nb := nb) (rb := rb) (p := p) (b1 := b1) (b2 := b2) (N := N) (l0 := l) (F := star G (Fr bt bl br at' aL lenL capL false)) (pre := pre ++ [k]) (l' := l2) (R := star (pt l0 (.loop busy)) C) (fun h => by simp at h) (by rw [HPL.out]; omega) (h20.eq (by unfold Fr; rw [HPL.out, HPM2.out]; ac_rfl))
                    exact h21.eq (by ac_rfl)
            · have hatb : ((pre.length : Int) == wrap64 (at'.tmod 40)) = false := by simpa using hat
              clear hat
              by_cases hq : pre.length + 1 = N
              · have hqe : ((pre.length + 1 : Nat) : Int) = (N : Int) := by omega
                have HQN := Lib.hid hq
                clear hq
                gi_wp2_with (gi_at_builtin; refine wpListIn_append_Sl rfl (.tmp 61) (.tmp 63) 22 rfl 3 i0 (.int .i64 0) 1 8 U hi0 hz0 hz1 hz2 rfl _ pre.length (pre.map kI) rfl h10 _ 1 ([k].map kI) rfl hone (oneI _) (by unfold maxLen; omega) (by omega) ?_; intro v9 w9 hS9 hv9; obtain ⟨_, a9, c9, rfl, _⟩ := id hS9.rowSl; have hc9 := hS9.swap.cell 0 rfl; have hf9 := hS9.swap.free 0; have h11 := St.eq (B := star (IsR p l') (star (pt bt (.cells #[.int .u8 at'] 5 (0, 0))) (star (pt bl (.cells #[.slice aL lenL capL] 32 (0, 0))) (star (pt br (.cells #[.bool false] 4 (0, 0))) (star (pt rb (.cells #[.pointer (some ⟨p, 0, none⟩)] 24 (0, 0))) (star (pt nb (.cells #[.int .i64 N] 3 (0, 0))) (star (pt gb (.cells #[.slice a9 (pre.length + 1) c9] 22 (0, 0))) (star (Row 3 1 (.slice a9 (pre.length + 1) c9) (pre.length + 1) (pre.map kI ++ [k].map kI)) (star (pt b1 (.cells #[.pointer (some ⟨p, 0, none⟩)] 24 (0, 0))) (star (pt b2 (.cells #[kS [116]] 9 (0, 0))) (star (G) (star (pt l0 (.loop busy)) C)))))))))))) (hS9.swap.setCell 0 (.slice a9 (pre.length + 1) c9)) (by show star (pt gb (.cells #[.slice a9 (pre.length + 1) c9] _ _)) _ = _; ac_rfl); have hbt := h11.right.cell 0 rfl; have hgb := h11.right.right.right.right.right.right.cell 0 rfl; have hnb := h11.right.right.right.right.right.cell 0 rfl)
                have et : L.take N = pre ++ [k] := by rw [hx.out, ← HQN.out, List.take_length_add_append]; rfl
                show St W _ (star (pt l0 (.loop busy)) (star C (SG gb nb rb p b1 b2 N l (star G (Fr bt bl br at' aL lenL capL false)) (.exit 2))))
                unfold SG
                rw [HOP.out, et]
                have h20 := St.toHeld (h11.eq (B := star (pt gb (.cells #[.slice a9 (pre.length + 1) c9] 22 (0, 0))) (star (Row 3 1 (.slice a9 (pre.length + 1) c9) (pre.length + 1) (pre.map kI ++ [k].map kI)) (star (IsR p l') (star (pt bt (.cells #[.int .u8 at'] 5 (0, 0))) (star (pt bl (.cells #[.slice aL lenL capL] 32 (0, 0))) (star (pt br (.cells #[.bool false] 4 (0, 0))) (star (pt rb (.cells #[.pointer (some ⟨p, 0, none⟩)] 24 (0, 0))) (star (pt nb (.cells #[.int .i64 N] 3 (0, 0))) (star (pt b1 (.cells #[.pointer (some ⟨p, 0, none⟩)] 24 (0, 0))) (star (pt b2 (.cells #[kS [116]] 9 (0, 0))) (star (G) (star (pt l0 (.loop busy)) C)))))))))))) (by ac_rfl))
                have h21 := St.toSI (gb := gb) (nb := nb) (rb := rb) (p := p) (b1 := b1) (b2 := b2) (N := N) (l0 := l) (F := star G (Fr bt bl br at' aL lenL capL false)) (pre := pre ++ [k]) (l' := l') (R := star (pt l0 (.loop busy)) C) (fun h => by simp at h) (by rw [HPL.out]; omega) (h20.eq (by unfold Fr; rw [HPL.out, HPM2.out]; ac_rfl))
                exact h21.eq (by ac_rfl)
              · have hqe : ¬ ((pre.length + 1 : Nat) : Int) = (N : Int) := by omega
                have HQN := Lib.hid hq
                clear hq
                gi_wp2_with (gi_at_builtin; refine wpListIn_append_Sl rfl (.tmp 61) (.tmp 63) 22 rfl 3 i0 (.int .i64 0) 1 8 U hi0 hz0 hz1 hz2 rfl _ pre.length (pre.map kI) rfl h10 _ 1 ([k].map kI) rfl hone (oneI _) (by unfold maxLen; omega) (by omega) ?_; intro v9 w9 hS9 hv9; obtain ⟨_, a9, c9, rfl, _⟩ := id hS9.rowSl; have hc9 := hS9.swap.cell 0 rfl; have hf9 := hS9.swap.free 0; have h11 := St.eq (B := star (IsR p l') (star (pt bt (.cells #[.int .u8 at'] 5 (0, 0))) (star (pt bl (.cells #[.slice aL lenL capL] 32 (0, 0))) (star (pt br (.cells #[.bool false] 4 (0, 0))) (star (pt rb (.cells #[.pointer (some ⟨p, 0, none⟩)] 24 (0, 0))) (star (pt nb (.cells #[.int .i64 N] 3 (0, 0))) (star (pt gb (.cells #[.slice a9 (pre.length + 1) c9] 22 (0, 0))) (star (Row 3 1 (.slice a9 (pre.length + 1) c9) (pre.length + 1) (pre.map kI ++ [k].map kI)) (star (pt b1 (.cells #[.pointer (some ⟨p, 0, none⟩)] 24 (0, 0))) (star (pt b2 (.cells #[kS [116]] 9 (0, 0))) (star (G) (star (pt l0 (.loop busy)) C)))))))))))) (hS9.swap.setCell 0 (.slice a9 (pre.length + 1) c9)) (by show star (pt gb (.cells #[.slice a9 (pre.length + 1) c9] _ _)) _ = _; ac_rfl); have hbt := h11.right.cell 0 rfl; have hgb := h11.right.right.right.right.right.right.cell 0 rfl; have hnb := h11.right.right.right.right.right.cell 0 rfl)
                show St W _ (star (pt l0 (.loop busy)) (star C (SF gb nb rb p b1 b2 N l (star G (Fr bt bl br at' aL lenL capL false)) (pre ++ [k]))))
                unfold SF
                rw [if_pos (by simp; have := HPM.out; have := HQN.out; omega)]
                have h20 := St.toHeld (h11.eq (B := star (pt gb (.cells #[.slice a9 (pre.length + 1) c9] 22 (0, 0))) (star (Row 3 1 (.slice a9 (pre.length + 1) c9) (pre.length + 1) (pre.map kI ++ [k].map kI)) (star (IsR p l') (star (pt bt (.cells #[.int .u8 at'] 5 (0, 0))) (star (pt bl (.cells #[.slice aL lenL capL] 32 (0, 0))) (star (pt br (.cells #[.bool false] 4 (0, 0))) (star (pt rb (.cells #[.pointer (some ⟨p, 0, none⟩)] 24 (0, 0))) (star (pt nb (.cells #[.int .i64 N] 3 (0, 0))) (star (pt b1 (.cells #[.pointer (some ⟨p, 0, none⟩)] 24 (0, 0))) (star (pt b2 (.cells #[kS [116]] 9 (0, 0))) (star (G) (star (pt l0 (.loop busy)) C)))))))))))) (by ac_rfl))
                have h21 := St.toSI (gb := gb) (nb := nb) (rb := rb) (p := p) (b1 := b1) (b2 := b2) (N := N) (l0 := l) (F := star G (Fr bt bl br at' aL lenL capL false)) (pre := pre ++ [k]) (l' := l') (R := star (pt l0 (.loop busy)) C) (fun h => by simp at h) (by rw [HPL.out]; omega) (h20.eq (by unfold Fr; rw [HPL.out, HPM2.out]; ac_rfl))
                exact h21.eq (by ac_rfl)
          · exact (St.no (R := star (pt l0 (.loop busy)) C) (h5.eq (by unfold SF; rw [if_neg hpm]; ac_rfl))).elim
        case done =>
          rintro D w5 h5
          by_cases hlm : L.length < N
          · unfold SF at h5
            rw [if_pos hlm] at h5
            have hLN : L.take N = L := List.take_of_length_le (by omega)
            have HTL : Hid (L.take N = L) := Lib.hid hLN
            have g1 : ¬ (N : Int) < m := by have := HML.out; omega
            have HTN : Hid (L.length = m) := HML
            clear g5 hLN hlm
            obtain ⟨l', _, _, h6⟩ := St.ofSI (h5.eq (B := star (SI gb nb rb p b1 b2 N l (star G (Fr bt bl br at' aL lenL capL false)) L) (pt D (.deferred (some [])))) (by ac_rfl))
            obtain ⟨ov, h7⟩ := St.held (R := star (pt nb (.cells #[.int .i64 N] 3 (0, 0))) (star (pt rb (.cells #[.pointer (some ⟨p, 0, none⟩)] 24 (0, 0))) (star (IsR p l') (star (pt b1 (.cells #[.pointer (some ⟨p, 0, none⟩)] 24 (0, 0))) (star (pt b2 (.cells #[kS [116]] 9 (0, 0))) (star (star G (Fr bt bl br at' aL lenL capL false)) (pt D (.deferred (some []))))))))) (h6.eq (by ac_rfl))
            rw [HTN.out] at h7
            obtain ⟨_, oa, oc, rfl, _⟩ := id h7.right.rowSl
            have h8 := h7.eq (B := star (pt br (.cells #[.bool false] 4 (0, 0))) (star (pt D (.deferred (some []))) (star (pt gb (.cells #[.slice oa m oc] 22 (0, 0))) (star (pt nb (.cells #[.int .i64 N] 3 (0, 0))) (star (Row 3 1 (.slice oa m oc) m (L.map kI)) (star (Row 3 1 (.slice va m vk) m (L.map kI)) (star (pt rb (.cells #[.pointer (some ⟨p, 0, none⟩)] 24 (0, 0))) (star (IsR p l') (star (pt b1 (.cells #[.pointer (some ⟨p, 0, none⟩)] 24 (0, 0))) (star (pt b2 (.cells #[kS [116]] 9 (0, 0))) (star (pt c1 (.cells #[.pointer (some ⟨p, 0, none⟩)] 24 (0, 0))) (star (pt c2 (.cells #[kS [116]] 9 (0, 0))) (star (pt bt (.cells #[.int .u8 at'] 5 (0, 0))) (pt bl (.cells #[.slice aL lenL capL] 32 (0, 0)))))))))))))))) (by rw [← HG.out]; unfold Fr; ac_rfl)
            have hgb := h8.right.right.cell 0 rfl
            have hnb := h8.right.right.right.cell 0 rfl
            clear h5 h6 h7
            have HSI := Lib.hid (sameI_any L L _ oa m oc va m vk HTN.out HTN.out (by have := HML.out; omega) h8.right.right.right.right.rowSl h8.right.right.right.right.right.rowSl)
            rw [decide_eq_true rfl] at HSI
            gi_wp2_with fail
            refine ⟨trivial, callsIn_wide.2 (HSI.out.mono ?_)⟩
            rintro e w7 hq
            have h9 := h8.makes hq
            obtain ⟨rfl, -⟩ := hq
            have HWK := Lib.hid (wakes_any w7)
            clear HSI h8 hgb hnb
            gi_wp2_with fail
            refine ⟨trivial, callsIn_wide.2 (HWK.out.mono ?_)⟩
            rintro e w8 hq
            have h10 := h9.makes hq
            obtain ⟨rfl, -⟩ := hq
            have hbr0 := h10.cell 0 rfl
            have hbrf := h10.free 0
            have h11 := h10.setCell 0 (.bool true)
            have hK := h11.right.blk
            clear HWK h9
            gi_wp2_with fail
            refine ⟨by simp, .inl ⟨_, _, rfl, run_takeDeferred hK, ?_⟩⟩
            have h12 := St.putObj h11.swap (.deferred none)
            have hrd := h12.right.cell 0 rfl
            exact ⟨.bool true, by simp [results, Try.results7, go_sem, hrd], rfl, h12.forget⟩
          · unfold SF at h5
            rw [if_neg hlm] at h5
            exact (St.no h5).elim
        case stop =>
          rintro D c w5 h5
          unfold SG at h5
          split at h5
          · rw [HOP.out] at h5
            clear g5
            by_cases hNm : N < m
            · have g1 : (N : Int) < m := by omega
              have HTN : Hid ((L.take N).length = N) := Lib.hid (by have := HML.out; simp; omega)
              obtain ⟨l', _, _, h6⟩ := St.ofSI (h5.eq (B := star (SI gb nb rb p b1 b2 N l (star G (Fr bt bl br at' aL lenL capL false)) (L.take N)) (pt D (.deferred (some [])))) (by ac_rfl))
              obtain ⟨ov, h7⟩ := St.held (R := star (pt nb (.cells #[.int .i64 N] 3 (0, 0))) (star (pt rb (.cells #[.pointer (some ⟨p, 0, none⟩)] 24 (0, 0))) (star (IsR p l') (star (pt b1 (.cells #[.pointer (some ⟨p, 0, none⟩)] 24 (0, 0))) (star (pt b2 (.cells #[kS [116]] 9 (0, 0))) (star (star G (Fr bt bl br at' aL lenL capL false)) (pt D (.deferred (some []))))))))) (h6.eq (by ac_rfl))
              rw [HTN.out] at h7
              obtain ⟨_, oa, oc, rfl, _⟩ := id h7.right.rowSl
              have h8 := h7.eq (B := star (pt br (.cells #[.bool false] 4 (0, 0))) (star (pt D (.deferred (some []))) (star (pt gb (.cells #[.slice oa N oc] 22 (0, 0))) (star (pt nb (.cells #[.int .i64 N] 3 (0, 0))) (star (Row 3 1 (.slice oa N oc) N ((L.take N).map kI)) (star (Row 3 1 (.slice va m vk) m (L.map kI)) (star (pt rb (.cells #[.pointer (some ⟨p, 0, none⟩)] 24 (0, 0))) (star (IsR p l') (star (pt b1 (.cells #[.pointer (some ⟨p, 0, none⟩)] 24 (0, 0))) (star (pt b2 (.cells #[kS [116]] 9 (0, 0))) (star (pt c1 (.cells #[.pointer (some ⟨p, 0, none⟩)] 24 (0, 0))) (star (pt c2 (.cells #[kS [116]] 9 (0, 0))) (star (pt bt (.cells #[.int .u8 at'] 5 (0, 0))) (pt bl (.cells #[.slice aL lenL capL] 32 (0, 0)))))))))))))))) (by rw [← HG.out]; unfold Fr; ac_rfl)
              have hgb := h8.right.right.cell 0 rfl
              have hnb := h8.right.right.right.cell 0 rfl
              clear h5 h6 h7
              have hmwk : N ≤ vk := by obtain ⟨_, _, _, hv, h, _⟩ := h8.right.right.right.right.right.rowSl; cases hv; omega
              obtain ⟨a2, k2, hcv⟩ : ∃ a2 k2, cutV va vk 0 N 1 = .slice a2 N k2 := ⟨_, _, rfl⟩
              have hcut := fun w => run_cut_h' (P := Try.prog) 22 3 1 Try.underlying22 (by kernel_rfl) va m vk (N : Int) N rfl hmwk w
              have hsl2 := cutI h8.right.right.right.right.right.rowSl 0 N (Nat.zero_le _) (by omega)
              rw [hcv] at hcut hsl2
              rw [List.drop_zero, Nat.sub_zero] at hsl2
              have HSI := Lib.hid (sameI_any (L.take N) (L.take N) _ oa N oc a2 N k2 HTN.out HTN.out (by omega) h8.right.right.right.right.rowSl hsl2)
              clear hcv hsl2
              rw [decide_eq_true rfl] at HSI
              gi_wp2_with fail
              refine ⟨trivial, callsIn_wide.2 (HSI.out.mono ?_)⟩
              rintro e w7 hq
              have h9 := h8.makes hq
              obtain ⟨rfl, -⟩ := hq
              have HWK := Lib.hid (wakes_any w7)
              clear HSI h8 hgb hnb
              gi_wp2_with fail
              refine ⟨trivial, callsIn_wide.2 (HWK.out.mono ?_)⟩
              rintro e w8 hq
              have h10 := h9.makes hq
              obtain ⟨rfl, -⟩ := hq
              have hbr0 := h10.cell 0 rfl
              have hbrf := h10.free 0
              have h11 := h10.setCell 0 (.bool true)
              have hK := h11.right.blk
              clear HWK h9
              gi_wp2_with fail
              refine ⟨by simp, .inl ⟨_, _, rfl, run_takeDeferred hK, ?_⟩⟩
              have h12 := St.putObj h11.swap (.deferred none)
              have hrd := h12.right.cell 0 rfl
              exact ⟨.bool true, by simp [results, Try.results7, go_sem, hrd], rfl, h12.forget⟩
            · have g1 : ¬ (N : Int) < m := by omega
              have HTN : Hid (L.length = m) := HML
              rw [List.take_of_length_le (by have := HML.out; omega)] at h5
              clear hNm
              obtain ⟨l', _, _, h6⟩ := St.ofSI (h5.eq (B := star (SI gb nb rb p b1 b2 N l (star G (Fr bt bl br at' aL lenL capL false)) L) (pt D (.deferred (some [])))) (by ac_rfl))
              obtain ⟨ov, h7⟩ := St.held (R := star (pt nb (.cells #[.int .i64 N] 3 (0, 0))) (star (pt rb (.cells #[.pointer (some ⟨p, 0, none⟩)] 24 (0, 0))) (star (IsR p l') (star (pt b1 (.cells #[.pointer (some ⟨p, 0, none⟩)] 24 (0, 0))) (star (pt b2 (.cells #[kS [116]] 9 (0, 0))) (star (star G (Fr bt bl br at' aL lenL capL false)) (pt D (.deferred (some []))))))))) (h6.eq (by ac_rfl))
              rw [HTN.out] at h7
              obtain ⟨_, oa, oc, rfl, _⟩ := id h7.right.rowSl
              have h8 := h7.eq (B := star (pt br (.cells #[.bool false] 4 (0, 0))) (star (pt D (.deferred (some []))) (star (pt gb (.cells #[.slice oa m oc] 22 (0, 0))) (star (pt nb (.cells #[.int .i64 N] 3 (0, 0))) (star (Row 3 1 (.slice oa m oc) m (L.map kI)) (star (Row 3 1 (.slice va m vk) m (L.map kI)) (star (pt rb (.cells #[.pointer (some ⟨p, 0, none⟩)] 24 (0, 0))) (star (IsR p l') (star (pt b1 (.cells #[.pointer (some ⟨p, 0, none⟩)] 24 (0, 0))) (star (pt b2 (.cells #[kS [116]] 9 (0, 0))) (star (pt c1 (.cells #[.pointer (some ⟨p, 0, none⟩)] 24 (0, 0))) (star (pt c2 (.cells #[kS [116]] 9 (0, 0))) (star (pt bt (.cells #[.int .u8 at'] 5 (0, 0))) (pt bl (.cells #[.slice aL lenL capL] 32 (0, 0)))))))))))))))) (by rw [← HG.out]; unfold Fr; ac_rfl)
              have hgb := h8.right.right.cell 0 rfl
              have hnb := h8.right.right.right.cell 0 rfl
              clear h5 h6 h7
              have HSI := Lib.hid (sameI_any L L _ oa m oc va m vk HTN.out HTN.out (by have := HML.out; omega) h8.right.right.right.right.rowSl h8.right.right.right.right.right.rowSl)
              rw [decide_eq_true rfl] at HSI
              gi_wp2_with fail
              refine ⟨trivial, callsIn_wide.2 (HSI.out.mono ?_)⟩
              rintro e w7 hq
              have h9 := h8.makes hq
              obtain ⟨rfl, -⟩ := hq
              have HWK := Lib.hid (wakes_any w7)
              clear HSI h8 hgb hnb
              gi_wp2_with fail
              refine ⟨trivial, callsIn_wide.2 (HWK.out.mono ?_)⟩
              rintro e w8 hq
              have h10 := h9.makes hq
              obtain ⟨rfl, -⟩ := hq
              have hbr0 := h10.cell 0 rfl
              have hbrf := h10.free 0
              have h11 := h10.setCell 0 (.bool true)
              have hK := h11.right.blk
              clear HWK h9
              gi_wp2_with fail
              refine ⟨by simp, .inl ⟨_, _, rfl, run_takeDeferred hK, ?_⟩⟩
              have h12 := St.putObj h11.swap (.deferred none)
              have hrd := h12.right.cell 0 rfl
              exact ⟨.bool true, by simp [results, Try.results7, go_sem, hrd], rfl, h12.forget⟩
          · exact (St.no h5).elim
end Go.Proofs.Ythaekkmnglhinaa.TpY
