import Derived.Test.YtedkkcbdhbbegaaTmR3
import Derived.Test.YtedkkcbdhbbegaaStep
import Derived.Deep.Cut
import Derived.Deep.CutRange
import Derived.Deep.CutBlock
import Derived.IntWalk
namespace Go.Proofs.Ytedkkcbdhbbegaa.TmY
open Go Go.RowKit Go.Proofs Go.Proofs.Ytedkkcbdhbbegaa.Sep Go.Proofs.Ytedkkcbdhbbegaa.Reg Go.Proofs.Ytedkkcbdhbbegaa.Frame Go.Proofs.Ytedkkcbdhbbegaa.Slc Go.Proofs.Ytedkkcbdhbbegaa.TmP Go.Proofs.Ytedkkcbdhbbegaa.TmQ Go.Proofs.Ytedkkcbdhbbegaa.TmI Go.Proofs.Ytedkkcbdhbbegaa.TmI2 Go.Proofs.Ytedkkcbdhbbegaa.TmI3 Go.Proofs.Ytedkkcbdhbbegaa.TmI4 Go.Proofs.Ytedkkcbdhbbegaa.TmI5 Go.Proofs.Ytedkkcbdhbbegaa.TmI8 Go.Proofs.Ytedkkcbdhbbegaa.TmK Go.Proofs.Ytedkkcbdhbbegaa.TmK2 Go.Proofs.Ytedkkcbdhbbegaa.TmK3 Go.Proofs.Ytedkkcbdhbbegaa.TmR Go.Proofs.Ytedkkcbdhbbegaa.TmR2 Go.Proofs.Ytedkkcbdhbbegaa.TmR3 Go.Proofs.Ytedkkcbdhbbegaa.Step

/-- What is done to timers. -/
structure Act where
  d : Int
  k : Int
  t : Int
namespace ActC
def E (x : Act) : List Value := [.int .u8 x.d, .int .i64 x.k, .int .i64 x.t]
def Ok (x : Act) : Prop := (Lit.int .u8 x.d).wf = true ∧ (Lit.int .i64 x.k).wf = true ∧ (Lit.int .i64 x.t).wf = true
theorem len (x : Act) : (E x).length = 3 := rfl
theorem dec {H : Type} {enc : TypeId × Value → H} {w : World} {base : Nat} {spare : Nat → Bool} {held : Bool} {n : Nat} {cs : List Value} {y : DataW H × List MemPlace} {d : TypeDesc} (_ : Try.prog.underlying 28 = some d)
    (h : DataW.trod enc Try.prog w base spare held n 28 cs = some y) : ∃ x, cs = E x ∧ Ok x := by
  obtain ⟨y0, y1, y2, m, -, hl, h0, h1, h2⟩ := Deep.trod_struct3 Try.underlying28 h
  rw [show Try.prog.cellsOf 28 = 3 by kernel_rfl] at hl
  have ci : Try.prog.cellsOf 3 = 1 := by kernel_rfl
  have cu : Try.prog.cellsOf 5 = 1 := by kernel_rfl
  match cs, hl with
  | [a, b, c], _ =>
    simp only [ci, cu] at h0 h1 h2
    obtain ⟨d, e0, w0⟩ := int_in Try.underlying5 h0
    obtain ⟨k, e1, w1⟩ := int_in Try.underlying3 h1
    obtain ⟨t, e2, w2⟩ := int_in Try.underlying3 h2
    simp at e0 e1 e2
    subst e0; subst e1; subst e2
    exact ⟨⟨d, k, t⟩, rfl, w0, w1, w2⟩
end ActC
theorem act_at_all {W : World} {a : Option Addr} {n c : Nat} {xs : List Act} (h : Sl W 3 (.slice a n c) n (xs.flatMap ActC.E)) {k : Nat} {x : Act} (hk : xs[k]? = some x) :
    ∃ ab ao, a = some ⟨ab, ao, none⟩ ∧ ∀ w A, St W w A → ∀ j v, (ActC.E x)[j]? = some v → w.cell? ⟨ab, ao + k * 3 + j, none⟩ = some v := by
  have hg := flatMap_get (E := ActC.E) ActC.len xs k x hk
  have hlen : 0 < (xs.flatMap ActC.E).length := by
    have h0 := hg 0 (by omega)
    have := (List.getElem?_eq_some_iff.1 (show (xs.flatMap ActC.E)[k * 3 + 0]? = some (.int .u8 x.d) from h0)).1
    omega
  obtain ⟨ab, ao, rfl, hc⟩ := sl_addr h hlen
  refine ⟨ab, ao, rfl, fun w A hS j v hj => ?_⟩
  have hj3 : j < 3 := by have := (List.getElem?_eq_some_iff.1 hj).1; simpa [ActC.E] using this
  have hc := hc (k * 3 + j) v (by rw [hg j hj3]; exact hj)
  rw [← Nat.add_assoc] at hc
  exact (hS.old (World.block_lt_of_cell? W _ hc)).trans hc

/-- What a key's lookup tells, of both. -/
theorem rel_look {l ws : List (κ × Int)} (h : Rel ltK l ws) (k : κ) : (k ∈ keysOf ws ∧ ∃ (q : Nat) (d : Int), q < ws.length ∧ atV k ws = q ∧ ws[q]? = some (k, d) ∧ dueV (dueP k l) = .tuple #[.int .i64 d, .bool true] ∧ decide (k ∈ keysOf l) = true ∧ ws.take q ++ ws.drop (q + 1) = cancelP k ws) ∨
    (k ∉ keysOf ws ∧ atV k ws = -1 ∧ dueV (dueP k l) = .tuple #[.int .i64 0, .bool false] ∧ decide (k ∈ keysOf l) = false ∧ cancelP k ws = ws) := by
  have hkl : k ∈ keysOf l ↔ k ∈ keysOf ws := (h.perm.map (fun x : κ × Int => x.1)).mem_iff
  by_cases hk : k ∈ keysOf ws
  · left
    obtain ⟨h1, h2⟩ := atP_lt hk
    have hd := h.due k
    rw [dueP_at (w := ws), List.getElem?_eq_getElem h1] at hd
    have hk1 : (ws[atP k ws]'h1).1 = k := by
      have := List.findIdx_getElem (p := fun x : κ × Int => decide (x.1 = k)) (xs := ws) (w := h1)
      exact of_decide_eq_true this
    refine ⟨hk, atP k ws, (ws[atP k ws]'h1).2, h1, h2, ?_, ?_, by simpa using hkl.2 hk, (cancelP_eq_drop hk).symm⟩
    · rw [List.getElem?_eq_getElem h1]
      congr 1
      exact Prod.ext hk1 rfl
    · rw [hd]; rfl
  · right
    refine ⟨hk, ?_, ?_, by simpa using fun h => hk (hkl.1 h), cancelP_none hk⟩
    · unfold atV
      rw [if_neg]
      unfold atP
      rw [List.findIdx_lt_length]
      rintro ⟨x, hx, hxk⟩
      exact hk (by simp at hxk; rw [← hxk]; exact List.mem_map_of_mem (f := (·.1)) hx)
    · have : dueP k l = none := dueP_none.2 (fun h => hk (hkl.1 h))
      rw [this]; rfl

/-- Where the document's loop stops. -/
theorem stop_of {t : Int} {l : List (κ × Int)} {j : Nat} (h1 : ∀ x ∈ l.take j, x.2 ≤ t) (h2 : ∀ x, l[j]? = some x → t < x.2) : keysOf (l.take j) = outP t l ∧ l.drop j = restP t l := by
  have e := List.take_append_drop j l
  have hall : ∀ x ∈ l.take j, decide (x.2 ≤ t) = true := fun x hx => by simpa using h1 x hx
  have hd : (l.drop j).takeWhile (fun x => decide (x.2 ≤ t)) = [] ∧ (l.drop j).dropWhile (fun x => decide (x.2 ≤ t)) = l.drop j := by
    cases hd : l.drop j with
    | nil => exact ⟨rfl, rfl⟩
    | cons x r =>
      have hx : l[j]? = some x := by rw [← List.head?_drop, hd]; rfl
      have := h2 x hx
      have hn : decide (x.2 ≤ t) = false := by simp; omega
      exact ⟨by rw [List.takeWhile_cons_of_neg (by simp [hn])], by rw [List.dropWhile_cons_of_neg (by simp [hn])]⟩
  constructor
  · unfold outP
    conv => rhs; rw [← e]
    rw [List.takeWhile_append_of_pos hall, hd.1, List.append_nil]
  · unfold restP
    conv => rhs; rw [← e]
    rw [List.dropWhile_append_of_pos hall, hd.2]
set_option maxRecDepth 100000 in
set_option maxHeartbeats 8000000 in
theorem play_walk (a : Option Addr) (len cap : Nat) (xs : List Act) {W : World} (hlen : xs.length = len) (hsl : Sl W 3 (.slice a len cap) len (xs.flatMap ActC.E)) (hok : ∀ x ∈ xs, ActC.Ok x) :
    Calls Try.prog 3 #[.slice a len cap] W (Law W emp) := by
  have h0 := St.start W
  have HLEN := Lib.hid hlen
  have HSL := Lib.hid hsl
  clear hlen hsl
  by_cases hbig : 150 < len
  · have HWK := Lib.hid (wakes_any W)
    go_enter Try.func3, Try.ntmps3
    go_wp2_with fail
    refine HWK.out.mono ?_
    rintro e w1 hq
    have h1 := h0.makes hq
    obtain ⟨rfl, -⟩ := hq
    go_wp2
    go_ret
    exact ⟨rfl, h1⟩
  have HN := Lib.hid (New_any h0)
  go_enter Try.func3, Try.ntmps3
  go_wp2_with fail
  refine HN.out.mono ?_
  rintro e w1 ⟨p, v, rfl, h1⟩
  have h2 := h1.nilRow (e := 33) (size := 2)
  go_wp2_with fail
  go_loopw [4, 5] (fun wv iv wr => ∃ (i m : Nat) (wa : Option Addr) (wk : Nat) (v : Value) (l ws : List (κ × Int)), i ≤ len ∧ m ≤ i ∧ iv = .int .i64 i ∧ wv = .slice wa m wk ∧ ws.length = m ∧ Rel ltK l ws ∧
    St W wr (star (Row 33 2 (.slice wa m wk) m (tsV ws)) (star (IsT p v l) emp))) (fun _ iv _ => len - (intOf iv).toNat)
  case atStart => exact ⟨0, 0, none, 0, v, [], [], Nat.zero_le _, Nat.le_refl _, rfl, rfl, rfl, Rel.nil, by simpa [tsV] using h2⟩
  case round =>
    obtain ⟨i, m, wa, wk, v, l, ws, hi, hmi, rfl, rfl, hm, hrl, hS⟩ := hrel
    have HM := Lib.hid hm
    have HRL := Lib.hid hrl
    clear hm hrl h1 h2 HN
    by_cases hin : i < len
    · obtain ⟨x, hx⟩ : ∃ x, xs[i]? = some x := ⟨_, List.getElem?_eq_getElem (by rw [HLEN.out]; exact hin)⟩
      obtain ⟨ab, ao, rfl, hel⟩ := act_at_all HSL.out hx
      obtain ⟨xd, xk, xt⟩ := x
      have he0 := hel _ _ hS 0 _ rfl
      have he1 := hel _ _ hS 1 _ rfl
      have he2 := hel _ _ hS 2 _ rfl
      simp only [Nat.add_zero] at he0
      have OK := Lib.hid (hok _ (List.mem_of_getElem? hx))
      clear hel hx
      have hA := hS.alloc (.cells #[.int .u8 xd, .int .i64 xk, .int .i64 xt] 28)
      obtain ⟨q, hq⟩ : ∃ q : Int, atV xk ws = q := ⟨_, rfl⟩
      obtain ⟨dv, hdv⟩ : ∃ dv : Value, dueV (dueP xk l) = dv := ⟨_, rfl⟩
      have HLK := Lib.hid (rel_look HRL.out xk)
      rw [hq, hdv, HM.out] at HLK
      have HAT := Lib.hid (rAt_any wa m wk ws HM.out (by omega) xk q hq _ hA.right.rowSl)
      obtain ⟨dz, db, rfl⟩ : ∃ dz db, dv = .tuple #[.int .i64 dz, .bool db] := by
        rcases HLK.out with ⟨_, _, d, _, _, _, h, _⟩ | ⟨_, _, h, _⟩
        · exact ⟨d, true, h⟩
        · exact ⟨0, false, h⟩
      go_wp2_with fail
      refine HAT.out.mono ?_
      rintro e w2 hq2
      have h2 := hA.makes hq2
      obtain ⟨rfl, -⟩ := hq2
      have HDU := Lib.hid (Due_any p v l xk _ hdv (R := star (Row 33 2 (.slice wa m wk) m (tsV ws)) (star (pt wr.heap.size (.cells #[.int .u8 xd, .int .i64 xk, .int .i64 xt] 28 (0, 0))) emp)) (h2.eq (by ac_rfl)))
      have hb1 := h2.cell 1 rfl
      have hb2 := h2.cell 2 rfl
      have hb0 := h2.cell 0 rfl
      clear HAT hA hS he0 he1 he2 hq hdv
      generalize wr.heap.size = bb at *
      go_wp2_with fail
      refine HDU.out.mono ?_
      rintro e w3 hq2
      have h3 := h2.makes hq2
      obtain ⟨rfl, -⟩ := hq2
      have hb1 := h3.cell 1 rfl
      have hb2 := h3.cell 2 rfl
      have hb0 := h3.cell 0 rfl
      clear HDU h2
      go_upto_region 11 with fail
      go_cut [65] from 42 to 65 (fun c wx => c = .bool false ∧ wx = w3)
      case first =>
        rcases HLK.out with ⟨_, qn, d, hqm, rfl, hwq, hdd, _⟩ | ⟨_, rfl, hdd, _⟩
        · cases hdd
          obtain ⟨ab', ao', rfl, hel⟩ := el_at h3.right.rowSl hwq
          obtain ⟨hc0, hc1⟩ := hel _ _ (St.start _)
          have hqI : (qn : Int) < m := by omega
          clear hel hwq
          go_wp2_with fail
          go_meet
          exact ⟨rfl, rfl⟩
        · cases hdd
          go_wp2_with fail
          go_meet
          exact ⟨rfl, rfl⟩
      case rest =>
        obtain ⟨rfl, rfl⟩ := hcut
        go_upto_block 2 with fail
        go_cut [4] from 66 to 150 (fun wv wx => ∃ (m : Nat) (wa : Option Addr) (wk : Nat) (v : Value) (l ws : List (κ × Int)), m ≤ i + 1 ∧ wv = .slice wa m wk ∧ ws.length = m ∧ Rel ltK l ws ∧
          St W wx (star (Row 33 2 (.slice wa m wk) m (tsV ws)) (star (IsT p v l) emp)))
        case first =>
          by_cases hd0 : xd = 0
          · subst hd0
            by_cases hbad : xt < 0 ∨ 4611686018427387904 < xt
            · have HSB := Lib.hid (Set_bad p xk xt hbad wc)
              have h4 := (h3.eq (B := star (pt bb (.cells #[.int .u8 0, .int .i64 xk, .int .i64 xt] 28 (0, 0))) (star (Row 33 2 (.slice wa m wk) m (tsV ws)) (star (IsT p v l) emp))) (by ac_rfl))
              rcases hbad with hbad | hbad
              · go_wp2_with fail
                refine HSB.out.mono ?_
                rintro e w4 hq
                have h5 := (h4.makes hq).right
                obtain ⟨rfl, -⟩ := hq
                go_wp2_with fail
                go_meet
                exact ⟨m, wa, wk, v, l, ws, by omega, rfl, HM.out, HRL.out, h5⟩
              · have hb0 : ¬ xt < 0 := by omega
                go_wp2_with fail
                refine HSB.out.mono ?_
                rintro e w4 hq
                have h5 := (h4.makes hq).right
                obtain ⟨rfl, -⟩ := hq
                go_wp2_with fail
                go_meet
                exact ⟨m, wa, wk, v, l, ws, by omega, rfl, HM.out, HRL.out, h5⟩
            · have hg0 : ¬ xt < 0 := fun h => hbad (.inl h)
              have hg1 : ¬ 4611686018427387904 < xt := fun h => hbad (.inr h)
              have hg2 : xt ≤ 4611686018427387904 := by omega
              clear hbad
              have HLEN2 : Hid (l.length = m) := Lib.hid (by rw [HRL.out.len, HM.out])
              go_upto_if 79 with fail
              go_cut [4] from 80 to 82 (fun wv wx => ∃ (m' : Nat) (wa : Option Addr) (wk : Nat), m' ≤ m ∧ wv = .slice wa m' wk ∧ (cancelP xk ws).length = m' ∧
                St W wx (star (Row 33 2 (.slice wa m' wk) m' (tsV (cancelP xk ws))) (star (pt bb (.cells #[.int .u8 0, .int .i64 xk, .int .i64 xt] 28 (0, 0))) (star (IsT p v l) emp))))
              case first =>
                rcases HLK.out with ⟨_, qn, d, hqm, rfl, hwq, hdd, hdb, hcut⟩ | ⟨_, rfl, hdd, hdb, hcut⟩
                · have h5 := h3.eq (B := star (Row 33 2 (.slice wa m wk) m (tsV ws)) (star (pt bb (.cells #[.int .u8 0, .int .i64 xk, .int .i64 xt] 28 (0, 0))) (star (IsT p v l) emp))) (by ac_rfl)
                  have HD := Lib.hid (rDrop_any _ ws m HM.out (by omega) qn hqm h5)
                  rw [hcut] at HD
                  have HL2 : Hid ((cancelP xk ws).length = m - 1) := Lib.hid (by rw [← hcut]; have := HM.out; simp only [List.length_append, List.length_take, List.length_drop]; omega)
                  clear h5 hwq hdd hdb hcut h3
                  go_wp2_with fail
                  refine HD.out.mono ?_
                  rintro e w5 ⟨v5, rfl, h5⟩
                  obtain ⟨_, a5, c5, rfl, _⟩ := id h5.rowSl
                  go_wp2_with fail
                  go_meet
                  exact ⟨m - 1, a5, c5, by omega, rfl, HL2.out, (h5.eq (B := star (Row 33 2 (.slice wa m wk) m (tsV ws)) (star (Row 33 2 (.slice a5 (m - 1) c5) (m - 1) (tsV (cancelP xk ws))) (star (pt bb (.cells #[.int .u8 0, .int .i64 xk, .int .i64 xt] 28 (0, 0))) (star (IsT p v l) emp)))) (by ac_rfl)).right⟩
                · have h5 := h3.eq (B := star (Row 33 2 (.slice wa m wk) m (tsV ws)) (star (pt bb (.cells #[.int .u8 0, .int .i64 xk, .int .i64 xt] 28 (0, 0))) (star (IsT p v l) emp))) (by ac_rfl)
                  have HE : Hid (cancelP xk ws = ws) := Lib.hid hcut
                  clear hdd hdb hcut h3
                  go_wp2_with fail
                  go_meet
                  exact ⟨m, wa, wk, by omega, rfl, by rw [HE.out]; exact HM.out, by rw [HE.out]; exact h5⟩
              case rest =>
                obtain ⟨m', wa', wk', hm', rfl, hml, h5⟩ := hcut
                have HML := Lib.hid hml
                clear hml h3
                obtain ⟨i0, hi0, hz0, hz1, hz2⟩ := info_parts infoR
                have U := Try.underlying26
                have h6 := (h5.drew).alloc (.cells #[] 33)
                have hE1 := St.mkRow (size := 2) (n := 0) (cap := 0) (xs := []) h6 (Nat.le_refl _) (Nat.zero_le _) rfl rfl
                have hE2 := (hE1.alloc (.cells #[kv xk, .int .i64 xt] 33)).swap
                have h7 := ((h5.drew).alloc (.cells #[kv xk, .int .i64 xt] 33)).alloc (.cells #[] 33)
                have hE3 := St.mkRow (size := 2) (n := 0) (cap := 0) (xs := []) h7 (Nat.le_refl _) (Nat.zero_le _) rfl rfl
                rw [World.size_alloc] at hE2 hE3
                have hdz : wc.drew.heap.size = wc.heap.size := rfl
                rw [hdz] at hE1 hE2 hE3
                clear h6 h7
                have hA1 := hE1.right.rowSl
                have hA2 := hE2.right.right.rowSl
                have hA3 := hE3.right.right.rowSl
                have HTS : Hid (tsV (cancelP xk ws) ++ tsV [(xk, xt)] = tsV (cancelP xk ws ++ [(xk, xt)])) := Lib.hid (tsV_append _ _).symm
                go_upto_region 20 with fail
                go_cut [4] from 83 to 92 (fun wv wx => ∃ (a : Option Addr) (c : Nat), wv = .slice a (m' + 1) c ∧
                  St W wx (star (Row 33 2 (.slice a (m' + 1) c) (m' + 1) (tsV (cancelP xk ws ++ [(xk, xt)]))) (star (pt bb (.cells #[.int .u8 0, .int .i64 xk, .int .i64 xt] 28 (0, 0))) (star (IsT p v l) emp))))
                case first =>
                  have hc1 := h5.right.cell 1 rfl
                  have hc2 := h5.right.cell 2 rfl
                  have hc3 := (h5.alloc (.cells #[] 33)).right.right.cell 1 rfl
                  have hc4 := (h5.alloc (.cells #[] 33)).right.right.cell 2 rfl
                  go_region_law (first
                    | (refine step_append_Sl rfl (.tmp 83) (.tmp 84) 26 rfl 33 i0 zV 2 16 U hi0 hz0 hz1 hz2 rfl _ 0 [] rfl hE1 _ m' (tsV (cancelP xk ws)) rfl hA1 (tsV_one _) (by unfold maxLen; omega) (by omega) ?_; intro v9 w9 hS9 hv9; rw [Nat.zero_add, List.nil_append] at hS9; have hc5 := hS9.right.right.cell 1 rfl; have hc6 := hS9.right.right.cell 2 rfl; have hS10 := (hS9.alloc (.cells #[kv xk, .int .i64 xt] 33)).swap; have hone := one_sl (x := (xk, xt)) hS10.swap; obtain ⟨_, a9, c9, rfl, _⟩ := id hS9.rowSl)
                    | (refine step_append_Sl rfl (.tmp 83) (.tmp 84) 26 rfl 33 i0 zV 2 16 U hi0 hz0 hz1 hz2 rfl _ 0 [] rfl hE2 _ m' (tsV (cancelP xk ws)) rfl hA2 (tsV_one _) (by unfold maxLen; omega) (by omega) ?_; intro v9 w9 hS10 hv9; rw [Nat.zero_add, List.nil_append] at hS10; have hone := one_sl (x := (xk, xt)) hS10.swap; obtain ⟨_, a9, c9, rfl, _⟩ := id hS10.rowSl)
                    | (refine step_append_Sl rfl (.tmp 83) (.tmp 84) 26 rfl 33 i0 zV 2 16 U hi0 hz0 hz1 hz2 rfl _ 0 [] rfl hE3 _ m' (tsV (cancelP xk ws)) rfl hA3 (tsV_one _) (by unfold maxLen; omega) (by omega) ?_; intro v9 w9 hS10 hv9; rw [Nat.zero_add, List.nil_append] at hS10; have hone := one_sl (x := (xk, xt)) hS10.swap; obtain ⟨_, a9, c9, rfl, _⟩ := id hS10.rowSl)
                    | (refine step_append_Sl rfl (.tmp 85) (.tmp 91) 26 rfl 33 i0 zV 2 16 U hi0 hz0 hz1 hz2 rfl _ m' (tsV (cancelP xk ws)) rfl hS10 _ 1 (tsV [(xk, xt)]) rfl hone (tsV_one _) (by unfold maxLen; omega) (by omega) ?_; intro v8 w8 hS8 hv8; rw [HTS.out] at hS8; obtain ⟨_, a8, c8, rfl, _⟩ := id hS8.rowSl))
                  all_goals (go_wp2_with fail; go_meet; exact ⟨a8, c8, rfl, (hS8.eq (B := star (star (pt _ (.cells #[kv xk, .int .i64 xt] 33 (0, 0))) (Row 33 2 (.slice wa' m' wk') m' (tsV (cancelP xk ws)))) (star (Row 33 2 (.slice a8 (m' + 1) c8) (m' + 1) (tsV (cancelP xk ws ++ [(xk, xt)]))) (star (pt bb (.cells #[.int .u8 0, .int .i64 xk, .int .i64 xt] 28 (0, 0))) (star (IsT p v l) emp)))) (by ac_rfl)).right⟩)
                case rest =>
                  obtain ⟨a8, c8, rfl, h8⟩ := hcut
                  have HSS := Lib.hid (Set_any p v l HRL.out.srt (by rw [HLEN2.out]; omega) xk xt (by omega) hg2 (R := star (Row 33 2 (.slice a8 (m' + 1) c8) (m' + 1) (tsV (cancelP xk ws ++ [(xk, xt)]))) (star (pt bb (.cells #[.int .u8 0, .int .i64 xk, .int .i64 xt] 28 (0, 0))) emp)) (h8.eq (by ac_rfl)))
                  have hb1 := h8.right.cell 1 rfl
                  have hb2 := h8.right.cell 2 rfl
                  clear hE1 hE2 hE3 hA1 hA2 hA3 h5
                  go_wp2_with fail
                  refine HSS.out.mono ?_
                  rintro e w9 ⟨rfl, v9, h9⟩
                  go_wp2_with fail
                  go_meet
                  exact ⟨m' + 1, a8, c8, v9, _, _, by omega, rfl, by simp [HML.out], Rel.set ordK HRL.out xk xt, (h9.eq (B := star (pt bb (.cells #[.int .u8 0, .int .i64 xk, .int .i64 xt] 28 (0, 0))) (star (Row 33 2 (.slice a8 (m' + 1) c8) (m' + 1) (tsV (cancelP xk ws ++ [(xk, xt)]))) (star (IsT p v9 (setP ltK xk xt l)) emp))) (by ac_rfl)).right⟩
          · have hd0b : (xd == 0) = false := by simpa using hd0
            by_cases hd1 : xd = 1
            · subst hd1
              have HC := Lib.hid (Cancel_any p v l xk (decide (xk ∈ keysOf l)) rfl (R := star (Row 33 2 (.slice wa m wk) m (tsV ws)) (star (pt bb (.cells #[.int .u8 1, .int .i64 xk, .int .i64 xt] 28 (0, 0))) emp)) (h3.eq (by ac_rfl)))
              have HRC := Lib.hid (HRL.out.cancel xk)
              go_wp2_with fail
              refine HC.out.mono ?_
              rintro e w4 ⟨rfl, v4, h4⟩
              rcases HLK.out with ⟨_, qn, d, hqm, rfl, hwq, hdd, hdb, hcut⟩ | ⟨_, rfl, hdd, hdb, hcut⟩
              · rw [hdb]
                have h5 := h4.eq (B := star (Row 33 2 (.slice wa m wk) m (tsV ws)) (star (IsT p v4 (cancelP xk l)) (star (pt bb (.cells #[.int .u8 1, .int .i64 xk, .int .i64 xt] 28 (0, 0))) emp))) (by ac_rfl)
                have HD := Lib.hid (rDrop_any _ ws m HM.out (by omega) qn hqm h5)
                rw [hcut] at HD
                have HL2 : Hid ((cancelP xk ws).length = m - 1) := Lib.hid (by rw [← hcut]; have := HM.out; simp only [List.length_append, List.length_take, List.length_drop]; omega)
                clear h4 h5 hwq hdd hdb hcut h3
                go_wp2_with fail
                refine HD.out.mono ?_
                rintro e w5 ⟨v5, rfl, h5⟩
                obtain ⟨_, a5, c5, rfl, _⟩ := id h5.rowSl
                go_wp2_with fail
                go_meet
                exact ⟨m - 1, a5, c5, v4, _, _, by omega, rfl, HL2.out, HRC.out, (h5.eq (B := star (star (Row 33 2 (.slice wa m wk) m (tsV ws)) (pt bb (.cells #[.int .u8 1, .int .i64 xk, .int .i64 xt] 28 (0, 0)))) (star (Row 33 2 (.slice a5 (m - 1) c5) (m - 1) (tsV (cancelP xk ws))) (star (IsT p v4 (cancelP xk l)) emp))) (by ac_rfl)).right⟩
              · rw [hdb]
                have h5 := (h4.eq (B := star (pt bb (.cells #[.int .u8 1, .int .i64 xk, .int .i64 xt] 28 (0, 0))) (star (Row 33 2 (.slice wa m wk) m (tsV ws)) (star (IsT p v4 (cancelP xk l)) emp))) (by ac_rfl)).right
                rw [hcut] at HRC
                have HR2 := HRC
                clear h4 hdd hdb hcut h3
                go_wp2_with fail
                go_meet
                exact ⟨m, wa, wk, v4, _, _, by omega, rfl, HM.out, HR2.out, h5⟩
            · have hd1b : (xd == 1) = false := by simpa using hd1
              by_cases hd2 : xd = 2
              · subst hd2
                have HLEN2 : Hid (l.length = m) := Lib.hid (by rw [HRL.out.len, HM.out])
                have h4 := h3.eq (B := star (Row 33 2 (.slice wa m wk) m (tsV ws)) (star (pt bb (.cells #[.int .u8 2, .int .i64 xk, .int .i64 xt] 28 (0, 0))) (star (IsT p v l) emp))) (by ac_rfl)
                have HF := Lib.hid (rFirst_any wa m wk ws HM.out (by omega) _ h4.rowSl)
                go_wp2_with fail
                refine HF.out.mono ?_
                rintro e w4 hq
                have h5 := (h4.makes hq).nilRow (e := 3) (size := 1)
                obtain ⟨rfl, -⟩ := hq
                obtain ⟨i0, hi0, hz0, hz1, hz2⟩ := info_parts infoK
                have U := Try.underlying38
                clear HF h4 h3 hb0 hb1 hb2
                go_wp2_with fail
                go_loopw [4, 11, 12] (fun wv ov kv wr' => ∃ (j mj : Nat) (u : List (κ × Int)) (ua : Option Addr) (uk : Nat) (oa : Option Addr) (ok : Nat), j + mj = m ∧ wv = .slice ua mj uk ∧ ov = .slice oa j ok ∧ kv = .int .i64 (firstZ u mj) ∧ Rel ltK (l.drop j) u ∧ u.length = mj ∧ (∀ x ∈ l.take j, x.2 ≤ xt) ∧
                    St W wr' (star (Row 3 1 (.slice oa j ok) j (intV (keysOf (l.take j)))) (star (Row 33 2 (.slice ua mj uk) mj (tsV u)) (star (pt bb (.cells #[.int .u8 2, .int .i64 xk, .int .i64 xt] 28 (0, 0))) (star (IsT p v l) emp))))) (fun wv _ _ _ => lenV wv)
                case atStart => exact ⟨0, m, ws, wa, wk, none, 0, by omega, rfl, rfl, rfl, by simpa using HRL.out, HM.out, by simp, by simpa [intV, keysOf] using h5⟩
                case round =>
                  obtain ⟨j, mj, u, ua, uk, oa, ok, hjm, rfl, rfl, rfl, hru, hum, htk, hS⟩ := hrel
                  have HTK := Lib.hid htk
                  have HUM := Lib.hid hum
                  have HRU := Lib.hid hru
                  clear htk hum hru h5
                  by_cases hmj : 0 < mj
                  · obtain ⟨x, hx⟩ : ∃ x, l[j]? = some x := ⟨_, List.getElem?_eq_getElem (by rw [HLEN2.out]; omega)⟩
                    have hdr : l.drop j = x :: l.drop (j + 1) := by
                      obtain ⟨hl, hx⟩ := List.getElem?_eq_some_iff.1 hx
                      rw [← hx]; exact List.drop_eq_getElem_cons hl
                    have HT : Hid (l.take (j + 1) = l.take j ++ [x]) := Lib.hid (by rw [List.take_add_one, hx]; rfl)
                    have HRU2 := HRU.out
                    rw [hdr] at HRU2
                    obtain ⟨b, hb, hfz, hbx, hru2⟩ := best_of HRU2
                    rw [HUM.out] at hfz hb
                    have HR2 := Lib.hid hru2
                    have HX := Lib.hid hx
                    rw [hfz]
                    obtain ⟨ab', ao', rfl, hel⟩ := el_at hS.right.rowSl hbx
                    obtain ⟨x1, x2⟩ := x
                    obtain ⟨hc0, hc1⟩ := hel _ _ (St.start _)
                    have hb2 := hS.right.right.cell 2 rfl
                    have hbI : (b : Int) < mj := by omega
                    have hb0 : decide ((0 : Int) ≤ b) = true := by simp
                    have HBX := Lib.hid hbx
                    clear hru2 hdr HRU2 hbx hfz hx hel
                    by_cases hxt : x2 ≤ xt
                    · have hxb : decide (x2 ≤ xt) = true := by simpa using hxt
                      have HTK2 : Hid (∀ y ∈ l.take (j + 1), y.2 ≤ xt) := Lib.hid (by
                        rw [HT.out]
                        intro y hy
                        rcases List.mem_append.1 hy with h | h
                        · exact HTK.out y h
                        · simp at h; subst h; exact hxt)
                      have HT2 : Hid (intV (keysOf (l.take j)) ++ [.int .i64 x1] = intV (keysOf (l.take (j + 1)))) := Lib.hid (by rw [HT.out]; simp [intV, keysOf])
                      clear hxt HTK HT
                      go_wp2_with fail
                      go_big_quiet (fail)
                      have hS2 := hS.drewN nq
                      obtain ⟨hc0', hc1'⟩ : (wr.drewN nq).cell? ⟨ab', ao' + b * 2, none⟩ = some (.int .i64 x1) ∧ True := ⟨hc0, trivial⟩
                      have h6 := hS2.alloc (.cells #[.int .i64 x1] 3)
                      have h7 := h6.swap
                      have hone : Sl ((wr.drewN nq).alloc (.cells #[.int .i64 x1] 3)) 1 (.slice (some ⟨(wr.drewN nq).heap.size, 0, none⟩) 1 1) 1 [.int .i64 x1] := (St.mkRow (size := 1) (n := 1) (cap := 1) (xs := [.int .i64 x1]) h6 (Nat.le_refl _) (by unfold maxLen; omega) rfl rfl).rowSl
                      clear hS hS2 h6 hb2
                      go_wp2_with (at_builtin; refine wpList_append_Sl rfl (.tmp 133) (.tmp 139) 38 rfl 3 i0 (.int .i64 0) 1 8 U hi0 hz0 hz1 hz2 rfl _ j (intV (keysOf (l.take j))) rfl h7 _ 1 [.int .i64 x1] rfl hone (by intro u hu; simp at hu; subst hu; rfl) (by unfold maxLen; omega) (by omega) ?_; intro v9 w9 h9 hv9; rw [HT2.out] at h9; obtain ⟨_, a9, c9, rfl, _⟩ := id h9.rowSl)
                      have h10 := (h9.eq (B := star (pt (wr.drewN nq).heap.size (.cells #[.int .i64 x1] 3 (0, 0))) (star (Row 33 2 (.slice (some ⟨ab', ao', none⟩) mj uk) mj (tsV u)) (star (Row 3 1 (.slice a9 (j + 1) c9) (j + 1) (intV (keysOf (l.take (j + 1))))) (star (pt bb (.cells #[.int .u8 2, .int .i64 xk, .int .i64 xt] 28 (0, 0))) (star (IsT p v l) emp))))) (by ac_rfl)).right
                      refine (rDrop_any _ u mj HUM.out (by omega) b (by omega) h10).mono ?_
                      rintro e w11 ⟨v11, rfl, h11⟩
                      obtain ⟨_, a11, c11, rfl, _⟩ := id h11.rowSl
                      have HL2 : Hid ((u.take b ++ u.drop (b + 1)).length = mj - 1) := Lib.hid (by have := HUM.out; simp only [List.length_append, List.length_take, List.length_drop]; omega)
                      have HF2 := Lib.hid (rFirst_any a11 (mj - 1) c11 _ HL2.out (by omega) w11 h11.rowSl)
                      clear h10 h9 h7 hone hc0 hc1 hc0' hc1'
                      go_wp2_with fail
                      refine HF2.out.mono ?_
                      rintro e w12 hq
                      have h12 := h11.makes hq
                      obtain ⟨rfl, -⟩ := hq
                      clear h11 HF2
                      go_wp2_with fail
                      refine ⟨⟨j + 1, mj - 1, _, a11, c11, a9, c9, by omega, rfl, rfl, rfl, HR2.out, HL2.out, HTK2.out, (h12.eq (B := star (Row 33 2 (.slice (some ⟨ab', ao', none⟩) mj uk) mj (tsV u)) (star (Row 3 1 (.slice a9 (j + 1) c9) (j + 1) (intV (keysOf (l.take (j + 1))))) (star (Row 33 2 (.slice a11 (mj - 1) c11) (mj - 1) (tsV (u.take b ++ u.drop (b + 1)))) (star (pt bb (.cells #[.int .u8 2, .int .i64 xk, .int .i64 xt] 28 (0, 0))) (star (IsT p v l) emp))))) (by ac_rfl)).right⟩, by simp [lenV]; omega⟩
                    · have hxb : decide (x2 ≤ xt) = false := by simpa using hxt
                      have hst := stop_of (t := xt) HTK.out (fun y hy => by rw [HX.out] at hy; cases hy; omega)
                      have HST := Lib.hid hst.1
                      have HST2 := Lib.hid hst.2
                      clear hxt hst
                      go_wp2_with fail
                      go_big_quiet (fail)
                      have hS2 := hS.drewN nq
                      clear hb2
                      have HRR : Hid (Rel ltK (restP xt l) u) := Lib.hid (HST2.out ▸ HRU.out)
                      have HJ : Hid ((outP xt l).length = j) := Lib.hid (by rw [← HST.out]; simp [keysOf]; have := HLEN2.out; omega)
                      rw [HST.out] at hS2
                      have HP := Lib.hid (Pop_any p v l HRL.out.srt (by rw [HLEN2.out]; omega) xt (R := star (Row 3 1 (.slice oa j ok) j (intV (outP xt l))) (star (Row 33 2 (.slice (some ⟨ab', ao', none⟩) mj uk) mj (tsV u)) (star (pt bb (.cells #[.int .u8 2, .int .i64 xk, .int .i64 xt] 28 (0, 0))) emp))) (hS2.eq (by ac_rfl)))
                      have hb2 := hS2.right.right.cell 2 rfl
                      clear hS2 hS
                      go_wp2_with fail
                      refine HP.out.mono ?_
                      rintro e w6 ⟨o6, v6, rfl, h6⟩
                      unfold outV at h6
                      rw [HJ.out] at h6
                      obtain ⟨_, a6, c6, rfl, _⟩ := id h6.rowSl
                      have HSI := sameI_any (outP xt l) (outP xt l) w6 a6 j c6 oa j ok HJ.out HJ.out (by omega) h6.rowSl h6.right.right.rowSl
                      rw [decide_eq_true rfl] at HSI
                      have HSI := Lib.hid HSI
                      clear HP
                      go_wp2_with fail
                      refine HSI.out.mono ?_
                      rintro e w7 hq
                      have h7 := h6.makes hq
                      obtain ⟨rfl, -⟩ := hq
                      clear HSI h6
                      go_wp2_with fail
                      go_meet
                      exact ⟨mj, _, uk, v6, _, _, by omega, rfl, HUM.out, HRR.out, (h7.eq (B := star (star (Row 3 1 (.slice a6 j c6) j ((outP xt l).map kv)) (star (Row 3 1 (.slice oa j ok) j (intV (outP xt l))) (pt bb (.cells #[.int .u8 2, .int .i64 xk, .int .i64 xt] 28 (0, 0))))) (star (Row 33 2 (.slice (some ⟨ab', ao', none⟩) mj uk) mj (tsV u)) (star (IsT p v6 (restP xt l)) emp))) (by ac_rfl)).right⟩
                  · obtain rfl : mj = 0 := by omega
                    have hst := stop_of (t := xt) HTK.out (fun y hy => by have := (List.getElem?_eq_some_iff.1 hy).1; have := HLEN2.out; omega)
                    have HST := Lib.hid hst.1
                    have HST2 := Lib.hid hst.2
                    have hfz : firstZ u 0 = -1 := rfl
                    rw [hfz]
                    clear hst hfz
                    have hb2 := hS.right.right.cell 2 rfl
                    go_wp2_with fail
                    go_big_quiet (fail)
                    have hS2 := hS.drewN nq
                    clear hb2
                    have HRR : Hid (Rel ltK (restP xt l) u) := Lib.hid (HST2.out ▸ HRU.out)
                    have HJ : Hid ((outP xt l).length = j) := Lib.hid (by rw [← HST.out]; simp [keysOf]; have := HLEN2.out; omega)
                    rw [HST.out] at hS2
                    have HP := Lib.hid (Pop_any p v l HRL.out.srt (by rw [HLEN2.out]; omega) xt (R := star (Row 3 1 (.slice oa j ok) j (intV (outP xt l))) (star (Row 33 2 (.slice ua 0 uk) 0 (tsV u)) (star (pt bb (.cells #[.int .u8 2, .int .i64 xk, .int .i64 xt] 28 (0, 0))) emp))) (hS2.eq (by ac_rfl)))
                    have hb2 := hS2.right.right.cell 2 rfl
                    clear hS2 hS
                    go_wp2_with fail
                    refine HP.out.mono ?_
                    rintro e w6 ⟨o6, v6, rfl, h6⟩
                    unfold outV at h6
                    rw [HJ.out] at h6
                    obtain ⟨_, a6, c6, rfl, _⟩ := id h6.rowSl
                    have HSI := sameI_any (outP xt l) (outP xt l) w6 a6 j c6 oa j ok HJ.out HJ.out (by omega) h6.rowSl h6.right.right.rowSl
                    rw [decide_eq_true rfl] at HSI
                    have HSI := Lib.hid HSI
                    clear HP
                    go_wp2_with fail
                    refine HSI.out.mono ?_
                    rintro e w7 hq
                    have h7 := h6.makes hq
                    obtain ⟨rfl, -⟩ := hq
                    clear HSI h6
                    go_wp2_with fail
                    go_meet
                    exact ⟨0, ua, uk, v6, _, _, by omega, rfl, HUM.out, HRR.out, (h7.eq (B := star (star (Row 3 1 (.slice a6 j c6) j ((outP xt l).map kv)) (star (Row 3 1 (.slice oa j ok) j (intV (outP xt l))) (pt bb (.cells #[.int .u8 2, .int .i64 xk, .int .i64 xt] 28 (0, 0))))) (star (Row 33 2 (.slice ua 0 uk) 0 (tsV u)) (star (IsT p v6 (restP xt l)) emp))) (by ac_rfl)).right⟩
              · have hd2b : (xd == 2) = false := by simpa using hd2
                have h4 := (h3.eq (B := star (pt bb (.cells #[.int .u8 xd, .int .i64 xk, .int .i64 xt] 28 (0, 0))) (star (Row 33 2 (.slice wa m wk) m (tsV ws)) (star (IsT p v l) emp))) (by ac_rfl)).right
                go_wp2_with fail
                go_meet
                exact ⟨m, wa, wk, v, l, ws, by omega, rfl, HM.out, HRL.out, h4⟩
        case rest =>
          clear HRL HLK HM h3 hb0 hb1 hb2
          obtain ⟨m, wa, wk, v, l, ws, hmi2, rfl, hm, hrl, h3⟩ := hcut
          have HM := Lib.hid hm
          have HRL := Lib.hid hrl
          have HLEN2 : Hid (l.length = m) := Lib.hid (by rw [hrl.len, hm])
          have HSO := Lib.hid (rSorted_any _ l ws m hm (by omega) hrl h3)
          clear hm hrl
          obtain ⟨i0, hi0, hz0, hz1, hz2⟩ := info_parts infoK
          have U := Try.underlying38
          go_wp2_with fail
          refine HSO.out.mono ?_
          rintro e w4 ⟨v4, rfl, h4⟩
          obtain ⟨_, sa, sk, rfl, _⟩ := id h4.rowSl
          have h5 := h4.nilRow (e := 3) (size := 1)
          clear HSO h3 h4
          go_wp2_with fail
          go_loopw [14, 15] (fun ov jv wr' => ∃ (j : Nat) (oa : Option Addr) (ok : Nat), j ≤ m ∧ jv = .int .i64 j ∧ ov = .slice oa j ok ∧
              St W wr' (star (Row 3 1 (.slice oa j ok) j (intV (keysOf (l.take j)))) (star (Row 33 2 (.slice sa m sk) m (tsV l)) (star (Row 33 2 (.slice wa m wk) m (tsV ws)) (star (IsT p v l) emp))))) (fun _ jv _ => m - (intOf jv).toNat)
          case atStart => exact ⟨0, none, 0, Nat.zero_le _, rfl, rfl, by simpa [intV, keysOf] using h5⟩
          case round =>
            obtain ⟨j, oa, ok, hj, rfl, rfl, hS⟩ := hrel
            clear h5
            by_cases hjm : j < m
            · obtain ⟨x, hx⟩ : ∃ x, l[j]? = some x := ⟨_, List.getElem?_eq_getElem (by rw [HLEN2.out]; exact hjm)⟩
              obtain ⟨ab', ao', rfl, hel⟩ := el_at hS.right.rowSl hx
              obtain ⟨x1, x2⟩ := x
              obtain ⟨hc0, hc1⟩ := hel _ _ (St.start _)
              have HT2 : Hid (intV (keysOf (l.take j)) ++ [.int .i64 x1] = intV (keysOf (l.take (j + 1)))) := Lib.hid (by rw [List.take_add_one, hx]; simp [intV, keysOf])
              have h6 := hS.alloc (.cells #[.int .i64 x1] 3)
              have h7 := h6.swap
              have hone : Sl (wr.alloc (.cells #[.int .i64 x1] 3)) 1 (.slice (some ⟨wr.heap.size, 0, none⟩) 1 1) 1 [.int .i64 x1] := (St.mkRow (size := 1) (n := 1) (cap := 1) (xs := [.int .i64 x1]) h6 (Nat.le_refl _) (by unfold maxLen; omega) rfl rfl).rowSl
              clear hS h6 hx hel
              go_wp2_with (at_builtin; refine wpList_append_Sl rfl (.tmp 159) (.tmp 165) 38 rfl 3 i0 (.int .i64 0) 1 8 U hi0 hz0 hz1 hz2 rfl _ j (intV (keysOf (l.take j))) rfl h7 _ 1 [.int .i64 x1] rfl hone (by intro u hu; simp at hu; subst hu; rfl) (by unfold maxLen; omega) (by omega) ?_; intro v9 w9 h9 hv9; rw [HT2.out] at h9; obtain ⟨_, a9, c9, rfl, _⟩ := id h9.rowSl)
              exact ⟨⟨j + 1, a9, c9, hjm, by go_num, rfl, (h9.eq (B := star (pt wr.heap.size (.cells #[.int .i64 x1] 3 (0, 0))) (star (Row 3 1 (.slice a9 (j + 1) c9) (j + 1) (intV (keysOf (l.take (j + 1))))) (star (Row 33 2 (.slice (some ⟨ab', ao', none⟩) m sk) m (tsV l)) (star (Row 33 2 (.slice wa m wk) m (tsV ws)) (star (IsT p v l) emp))))) (by ac_rfl)).right⟩, by simp [intOf]; omega⟩
            · obtain rfl : j = m := by omega
              have HTA : Hid (keysOf (l.take j) = keysOf l) := Lib.hid (by rw [List.take_of_length_le (by rw [HLEN2.out]; exact Nat.le_refl _)])
              rw [HTA.out] at hS
              have HKL : Hid ((keysOf l).length = j) := Lib.hid (by simp [keysOf, HLEN2.out])
              have h6 := hS.eq (B := star (IsT p v l) (star (Row 3 1 (.slice oa j ok) j (intV (keysOf l))) (star (Row 33 2 (.slice sa j sk) j (tsV l)) (star (Row 33 2 (.slice wa j wk) j (tsV ws)) emp)))) (by ac_rfl)
              have HK := Lib.hid (keys_at p v l HRL.out.ndl (by rw [HLEN2.out]; omega) 1000 (by omega) (by omega) (keysOf l) (by rw [List.take_of_length_le (by rw [HLEN2.out]; omega)]) 1000 rfl h6)
              clear hS h6
              go_wp2_with fail
              refine HK.out.mono ?_
              rintro e w7 ⟨a7, c7, rfl, h7⟩
              rw [HKL.out] at h7
              have HSI := sameI_any (keysOf l) (keysOf l) w7 a7 j c7 oa j ok HKL.out HKL.out (by omega) h7.rowSl h7.right.right.rowSl
              rw [decide_eq_true rfl] at HSI
              have HSI := Lib.hid HSI
              have HE : Hid ((keysOf l).length = j) := HKL
              rw [HE.out]
              clear HK
              go_wp2_with fail
              refine HSI.out.mono ?_
              rintro e w8 hq
              have h8 := h7.makes hq
              obtain ⟨rfl, -⟩ := hq
              have h9 := h8.right
              have HLN := Lib.hid (Len_any p v l h9)
              rw [HLEN2.out] at HLN
              clear HSI h7
              go_wp2_with fail
              refine HLN.out.mono ?_
              rintro e w9 hq
              have h10 := h9.makes hq
              obtain ⟨rfl, -⟩ := hq
              clear HLN h8 h9
              go_wp2_with fail
              exact ⟨⟨i + 1, j, wa, wk, v, l, ws, by omega, by omega, by go_num, rfl, HM.out, HRL.out, (h10.eq (B := star (star (Row 3 1 (.slice oa j ok) j (intV (keysOf l))) (Row 33 2 (.slice sa j sk) j (tsV l))) (star (Row 33 2 (.slice wa j wk) j (tsV ws)) (star (IsT p v l) emp))) (by ac_rfl)).right⟩, by simp [intOf]; omega⟩
    · obtain rfl : i = len := by omega
      have HWK := Lib.hid (wakes_any wr)
      go_wp2_with fail
      refine HWK.out.mono ?_
      rintro e w9 hq
      have h9 := hS.makes hq
      obtain ⟨rfl, -⟩ := hq
      go_wp2
      go_ret
      exact ⟨rfl, h9.forget⟩
end Go.Proofs.Ytedkkcbdhbbegaa.TmY
