import Derived.Test.YthaekkmnglhinaaTpG
import Derived.Test.YthaekkmnglhinaaHeld
import Derived.Deep.Cut
import Derived.Deep.CutRange
import Derived.Deep.CutBlock
import Derived.Carry
namespace Go.Proofs.Ythaekkmnglhinaa.TpZ
open Go Go.RowKit Go.Proofs Go.Proofs.Ythaekkmnglhinaa.Sep Go.Proofs.Ythaekkmnglhinaa.Reg Go.Proofs.Ythaekkmnglhinaa.Frame Go.Proofs.Ythaekkmnglhinaa.Held Go.Proofs.Ythaekkmnglhinaa.Mp Go.Proofs.Ythaekkmnglhinaa.Ms Go.Proofs.Ythaekkmnglhinaa.TpP Go.Proofs.Ythaekkmnglhinaa.TpA Go.Proofs.Ythaekkmnglhinaa.TpI Go.Proofs.Ythaekkmnglhinaa.TpK Go.Proofs.Ythaekkmnglhinaa.TpL Go.Proofs.Ythaekkmnglhinaa.TpM Go.Proofs.Ythaekkmnglhinaa.TpN Go.Proofs.Ythaekkmnglhinaa.TpO Go.Proofs.Ythaekkmnglhinaa.TpS Go.Proofs.Ythaekkmnglhinaa.TpT Go.Proofs.Ythaekkmnglhinaa.TpU Go.Proofs.Ythaekkmnglhinaa.TpV Go.Proofs.Ythaekkmnglhinaa.TpG

/-! ### The plain laws: pairs counted by their topics, and by who hears. -/
def inT (w : List Pr) (A : List Tx) : Nat := (w.filter fun x => decide (x.1 ∈ A)).length
def outK (w : List Pr) (ks : List Int) : Nat := (w.filter fun x => decide (x.2 ∉ ks)).length
theorem inT_nil (w : List Pr) : inT w [] = 0 := by simp [inT]
theorem inT_all {w : List Pr} {A : List Tx} (h : ∀ x ∈ w, x.1 ∈ A) : inT w A = w.length := by
  unfold inT; rw [List.filter_eq_self.2 fun x hx => by simpa using h x hx]
theorem inT_app {w : List Pr} {A : List Tx} {t : Tx} (h : t ∉ A) : inT w (A ++ [t]) = inT w A + (ofP w t).length := by
  unfold inT ofP
  rw [List.length_map]
  induction w with
  | nil => rfl
  | cons x w ih =>
    by_cases h1 : x.1 = t
    · have h2 : x.1 ∉ A := fun hx => h (h1 ▸ hx)
      have h3 : x.1 ∈ A ++ [t] := by simp [h1]
      rw [List.filter_cons_of_pos (by simpa using h3), List.filter_cons_of_neg (by simpa using h2), List.filter_cons_of_pos (by simpa using h1)]
      simp only [List.length_cons]
      omega
    · by_cases h2 : x.1 ∈ A
      · rw [List.filter_cons_of_pos (by simp [h2]), List.filter_cons_of_pos (by simpa using h2), List.filter_cons_of_neg (by simpa using h1)]
        simp only [List.length_cons]
        omega
      · rw [List.filter_cons_of_neg (by simp [h2, h1]), List.filter_cons_of_neg (by simpa using h2), List.filter_cons_of_neg (by simpa using h1)]
        exact ih
theorem outK_nil (w : List Pr) : outK w [] = w.length := by
  unfold outK; rw [List.filter_eq_self.2 fun x _ => by simp]
theorem outK_all {w : List Pr} {ks : List Int} (h : ∀ x ∈ w, x.2 ∈ ks) : outK w ks = 0 := by
  unfold outK; rw [List.length_eq_zero_iff, List.filter_eq_nil_iff]; intro x hx; simpa using h x hx
theorem outK_in {w : List Pr} {ks : List Int} {k : Int} (h : k ∈ ks) : outK w (ks ++ [k]) = outK w ks := by
  unfold outK
  congr 1
  refine List.filter_congr fun x _ => ?_
  have : x.2 ∈ ks ++ [k] ↔ x.2 ∈ ks := by
    rw [List.mem_append, List.mem_singleton]
    exact ⟨fun h' => h'.elim id (fun e => e ▸ h), .inl⟩
  simp only [this]
theorem outK_app {w : List Pr} {ks : List Int} {k : Int} (h : k ∉ ks) : outK w ks = outK w (ks ++ [k]) + (byP w k).length := by
  unfold outK byP
  rw [List.length_map]
  induction w with
  | nil => rfl
  | cons x w ih =>
    by_cases h1 : x.2 = k
    · have h2 : x.2 ∉ ks := fun hx => h (h1 ▸ hx)
      have h3 : ¬ x.2 ∉ ks ++ [k] := by simp [h1]
      rw [List.filter_cons_of_pos (by simpa using h2), List.filter_cons_of_neg (by simpa using h3), List.filter_cons_of_pos (by simpa using h1)]
      simp only [List.length_cons]
      omega
    · by_cases h2 : x.2 ∈ ks
      · rw [List.filter_cons_of_neg (by simpa using h2), List.filter_cons_of_neg (by simp [h2]), List.filter_cons_of_neg (by simpa using h1)]
        exact ih
      · rw [List.filter_cons_of_pos (by simpa using h2), List.filter_cons_of_pos (by simp [h1, h2]), List.filter_cons_of_neg (by simpa using h1)]
        simp only [List.length_cons]
        omega
/-- A map that holds 1 at just these keys. -/
def One (es : List (Int × Value)) (ks : List Int) : Prop := ∀ k, getM k es = if k ∈ ks then some (.int .i64 1) else none
theorem One.nil : One [] [] := fun _ => rfl
theorem One.put {es : List (Int × Value)} {ks : List Int} (h : One es ks) (k : Int) : One (putM k (.int .i64 1) es) (ks ++ [k]) := by
  intro j
  rw [getM_put, h j]
  by_cases hj : j = k
  · subst hj; simp
  · simp [hj]
theorem One.got {es : List (Int × Value)} {ks : List Int} (h : One es ks) (k : Int) : (getM k es).getD (.int .i64 0) = .int .i64 (if k ∈ ks then 1 else 0) := by
  rw [h k]; split <;> rfl
/-- What is known of the pairs behind i acts. -/
structure Inv (xs : List TpG.Act) (i : Nat) (w : List Pr) : Prop where
  le : w.length ≤ i
  nd : w.Nodup
  mem : ∀ x ∈ w, x.1.length ≤ 60 ∧ x.2 ∈ (xs.take i).map (·.k)
theorem Inv.nil (xs : List TpG.Act) : Inv xs 0 [] := ⟨Nat.le_refl _, List.nodup_nil, fun _ h => by cases h⟩
theorem Inv.sub {xs : List TpG.Act} {i : Nat} {w v : List Pr} (h : Inv xs i w) (hs : v.Sublist w) : Inv xs (i + 1) v := by
  refine ⟨by have := hs.length_le; have := h.le; omega, hs.nodup h.nd, fun x hx => ?_⟩
  obtain ⟨h1, h2⟩ := h.mem x (hs.subset hx)
  refine ⟨h1, ?_⟩
  obtain ⟨y, hy, e⟩ := List.mem_map.1 h2
  exact List.mem_map.2 ⟨y, (List.take_sublist_take_left (Nat.le_succ i)).subset hy, e⟩
theorem Inv.add {xs : List TpG.Act} {i : Nat} {w : List Pr} (h : Inv xs i w) {x : TpG.Act} (hx : xs[i]? = some x) (h60 : x.t.length ≤ 60) : Inv xs (i + 1) (addP w x.t x.k) := by
  unfold addP
  split
  · exact h.sub (List.Sublist.refl _)
  · rename_i hn
    have h' := h.sub (List.Sublist.refl w)
    refine ⟨by have := h.le; simp; omega, ?_, fun y hy => ?_⟩
    · rw [List.nodup_append]
      exact ⟨h.nd, by simp, fun a ha b hb e => hn (by simp at hb; rw [← hb, ← e]; exact ha)⟩
    · rcases List.mem_append.1 hy with hy | hy
      · exact h'.mem y hy
      · obtain rfl : y = (x.t, x.k) := by simpa using hy
        refine ⟨h60, List.mem_map.2 ⟨x, ?_, rfl⟩⟩
        rw [List.take_add_one, hx]; simp
theorem tops_notin {T : List Tx} (h : Rise T) {k : Nat} {t : Tx} (ht : T[k]? = some t) : t ∉ T.take k := by
  intro hm
  obtain ⟨j, hj⟩ := List.getElem?_of_mem hm
  rw [List.getElem?_take] at hj
  split at hj
  · rename_i hjk
    obtain ⟨h1, e1⟩ := List.getElem?_eq_some_iff.1 hj
    obtain ⟨h2, e2⟩ := List.getElem?_eq_some_iff.1 ht
    have := List.pairwise_iff_getElem.1 h j k h1 h2 hjk
    rw [e1, e2] at this
    exact List.lt_irrefl _ this
  · cases hj
theorem tops_next {T : List Tx} (h : Rise T) {q : Nat} {s t : Tx} (hs : T[q]? = some s) (ht : T[q + 1]? = some t) : s < t := by
  obtain ⟨h1, e1⟩ := List.getElem?_eq_some_iff.1 hs
  obtain ⟨h2, e2⟩ := List.getElem?_eq_some_iff.1 ht
  have := List.pairwise_iff_getElem.1 h q (q + 1) h1 h2 (by omega)
  rwa [e1, e2] at this
theorem less_lt : ∀ (a b : List UInt8), Op.bytesLess a b = decide (a < b)
  | _, [] => by cases ‹List UInt8› <;> simp [Op.bytesLess]
  | [], _ :: _ => by simp [Op.bytesLess]
  | x :: a, y :: b => by
    have ih := less_lt a b
    simp only [Op.bytesLess, ih, List.cons_lt_cons_iff]
    by_cases h : x < y
    · simp [h]
    · by_cases h2 : x = y <;> simp [h, h2]
/-- An element of a slice whose place is known. -/
theorem elS_at {w : World} {b o n c : Nat} {l : List Tx} (h : Sl w 1 (.slice (some ⟨b, o, none⟩) n c) n (l.map kS)) {i : Nat} {x : Tx} (hx : l[i]? = some x) : w.cell? ⟨b, o + i, none⟩ = some (kS x) := by
  obtain ⟨ab, ao, e, hc⟩ := elS h hx
  cases e
  exact hc _ _ (St.start _)
theorem elI_at {w : World} {b o n c : Nat} {l : List Int} (h : Sl w 1 (.slice (some ⟨b, o, none⟩) n c) n (l.map kI)) {i : Nat} {x : Int} (hx : l[i]? = some x) : w.cell? ⟨b, o + i, none⟩ = some (kI x) := by
  obtain ⟨ab, ao, e, hc⟩ := elI h hx
  cases e
  exact hc _ _ (St.start _)
theorem act_at {W : World} {b o n c : Nat} {xs : List TpG.Act} (h : Sl W 3 (.slice (some ⟨b, o, none⟩) n c) n (xs.flatMap ActC.E)) {k : Nat} {x : TpG.Act} (hk : xs[k]? = some x) :
    ∀ w A, St W w A → ∀ j v, (ActC.E x)[j]? = some v → w.cell? ⟨b, o + k * 3 + j, none⟩ = some v := by
  obtain ⟨ab, ao, e, hc⟩ := act_at_all h hk
  cases e
  exact hc
def keysT (xs : List TpG.Act) (n : Nat) : List Int := (xs.take n).map (·.k)
theorem keysT_succ {xs : List TpG.Act} {n : Nat} {x : TpG.Act} (h : xs[n]? = some x) : keysT xs (n + 1) = keysT xs n ++ [x.k] := by
  unfold keysT; rw [List.take_add_one, h, List.map_append]; rfl
set_option maxRecDepth 100000 in
set_option maxHeartbeats 8000000 in
theorem pairs_walk {W : World} (a0 : Option Addr) (len0 cap0 : Nat) (xs : List TpG.Act) (hlen : xs.length = len0) (hsl : Sl W 3 (.slice a0 len0 cap0) len0 (xs.flatMap ActC.E)) (_ : ∀ x ∈ xs, ActC.Ok x) :
    Calls Try.prog 6 #[.slice a0 len0 cap0] W (Law W emp) := by
  have HSL := Lib.hid hsl
  have HLEN := Lib.hid hlen
  have HG := Lib.hid (Great_any a0 len0 cap0 xs hlen W hsl)
  clear hsl hlen
  go_enter Try.func6, Try.ntmps6
  go_wp2_with fail
  refine HG.out.mono ?_
  rintro e w1 ⟨b, hq, hsm⟩
  have h1 := (St.start W).makes hq
  obtain ⟨rfl, -⟩ := hq
  clear HG
  cases b
  · obtain ⟨h150, h60⟩ := hsm rfl
    have H60 := Lib.hid h60
    have hl150 : len0 ≤ 150 := by rw [← HLEN.out]; exact h150
    have HN := Lib.hid (New_any h1)
    clear h60 hsm h150
    go_wp2_with fail
    refine HN.out.mono ?_
    rintro e w2 ⟨p, rfl, h2⟩
    clear HN h1
    go_wp2_with fail
    go_loopw [4] (fun iv wr => ∃ (i : Nat) (w : List Pr), i ≤ len0 ∧ iv = .int .i64 i ∧ Inv xs i w ∧ St W wr (star (IsR p w) emp)) (fun iv _ => len0 - (intOf iv).toNat)
    case atStart => exact ⟨0, [], Nat.zero_le _, rfl, Inv.nil xs, h2⟩
    case round =>
      obtain ⟨i, w, hi, rfl, hinv, hS⟩ := hrel
      have HI := Lib.hid hinv
      have hwl := hinv.le
      clear hinv h2
      by_cases hin : i < len0
      · obtain ⟨x, hx⟩ : ∃ x, xs[i]? = some x := ⟨_, List.getElem?_eq_getElem (by rw [HLEN.out]; exact hin)⟩
        obtain ⟨ab, ao, rfl, hel⟩ := act_at_all HSL.out hx
        obtain ⟨xd, xt, xk⟩ := x
        have he0 := hel _ _ (hS) 0 _ rfl
        have he1 := hel _ _ (hS) 1 _ rfl
        have he2 := hel _ _ (hS) 2 _ rfl
        have hd1 := hel _ _ (hS.drew) 1 _ rfl
        have hd2 := hel _ _ (hS.drew) 2 _ rfl
        simp only [Nat.add_zero] at he0
        have HX := Lib.hid hx
        have HXT := Lib.hid (H60.out _ (List.mem_of_getElem? hx))
        have hinI : (i : Int) < len0 := by omega
        clear hel hx
        go_upto_block 2 with fail
        go_cut [4] from 20 to 192 (fun s wx => s = .int .i64 i ∧ ∃ w' : List Pr, Inv xs (i + 1) w' ∧ St W wx (star (IsR p w') emp))
        case first =>
          by_cases hd0 : xd = 0
          · subst hd0
            have HA := Lib.hid (Add_any p w (by omega) xt xk hS.drew)
            have HI2 := Lib.hid (HI.out.add HX.out HXT.out)
            go_wp2_with fail
            refine wp_region_canon [0, 1, 2, 3, 4, 5, 6, 7, 8, 9, 10, 11] (by kernel_rfl) (by kernel_rfl) ?_
            simp only [pickOps, nthOp]
            go_wp2_with fail
            refine HA.out.mono ?_
            rintro e w3 ⟨rfl, h3⟩
            generalize (if (xt, xk) ∈ w then (5 : Int) else 0) = rv
            go_wp2_with fail
            simp only [Only]
            go_wp2_with fail
            go_meet
            exact ⟨rfl, _, HI2.out, h3⟩
          · have hd0b : (xd == 0) = false := by simpa using hd0
            by_cases hd1 : xd = 1
            · subst hd1
              have HA := Lib.hid (Drop_any p w (by omega) xt xk hS.drew)
              have HI2 := Lib.hid (HI.out.sub (List.filter_sublist (p := fun x => decide (x ≠ (xt, xk)))))
              go_wp2_with fail
              refine wp_region_canon [0, 1, 2, 3, 4, 5, 6, 7, 8, 9, 10, 11] (by kernel_rfl) (by kernel_rfl) ?_
              simp only [pickOps, nthOp]
              go_wp2_with fail
              refine HA.out.mono ?_
              rintro e w3 ⟨rfl, h3⟩
              go_wp2_with fail
              simp only [Only]
              go_wp2_with fail
              go_meet
              exact ⟨rfl, _, HI2.out, h3⟩
            · have hd1b : (xd == 1) = false := by simpa using hd1
              by_cases hd2 : xd = 2
              · subst hd2
                have HA := Lib.hid (DropAll_any p w (by omega) xk hS)
                have HI2 := Lib.hid (HI.out.sub (List.filter_sublist (p := fun x => decide (x.2 ≠ xk))))
                go_wp2_with fail
                refine HA.out.mono ?_
                rintro e w3 ⟨a3, c3, rfl, h3⟩
                go_wp2_with fail
                go_meet
                exact ⟨rfl, _, HI2.out, h3.right⟩
              · have hd2b : (xd == 2) = false := by simpa using hd2
                go_wp2_with fail
                go_meet
                exact ⟨rfl, w, HI.out.sub (List.Sublist.refl _), hS⟩
        case rest =>
          obtain ⟨rfl, w, hinv, hS⟩ := hcut
          have HI := Lib.hid hinv
          have hwl := hinv.le
          have HTP := Lib.hid (Topics_any p w (by omega) (fun x hx => by have := (hinv.mem x hx).1; omega) hS)
          clear hinv he0 he1 he2 hd1 hd2
          go_wp2_with fail
          refine HTP.out.mono ?_
          rintro e w3 ⟨ta, tc, rfl, h3⟩
          have HRI := Lib.hid (topicsP_rise w)
          have HME : Hid (∀ t, t ∈ topicsP w ↔ ∃ k, (t, k) ∈ w) := Lib.hid (fun t => mem_topicsP)
          have HTL : Hid (inT w (topicsP w) = w.length) := Lib.hid (inT_all (fun x hx => (mem_topicsP).2 ⟨x.2, hx⟩))
          have htl := topicsP_le w
          generalize topicsP w = T at *
          obtain ⟨tn, htn⟩ : ∃ tn, T.length = tn := ⟨_, rfl⟩
          rw [htn] at h3 htl ⊢
          have HTN := Lib.hid htn
          clear htn HTP hS
          go_wp2_with fail
          go_loopw [6, 7] (fun nv kv wr => ∃ k : Nat, k ≤ tn ∧ kv = .int .i64 k ∧ nv = .int .i64 (inT w (T.take k) : Nat) ∧ St W wr (star (Row 9 1 (.slice ta tn tc) tn (T.map kS)) (star (IsR p w) emp))) (fun _ kv _ => tn - (intOf kv).toNat)
          case atStart => exact ⟨0, Nat.zero_le _, rfl, by rw [List.take_zero, inT_nil]; rfl, h3⟩
          case round =>
            obtain ⟨k, hk, rfl, rfl, hS⟩ := hrel
            clear h3
            by_cases hkn : k < tn
            · obtain ⟨t, ht⟩ : ∃ t, T[k]? = some t := ⟨_, List.getElem?_eq_getElem (by rw [HTN.out]; exact hkn)⟩
              obtain ⟨tb, tq, rfl, hel⟩ := elS hS.rowSl ht
              have het := hel _ _ (St.start _)
              have hknI : (k : Int) < tn := by omega
              have HO := Lib.hid (of_any p w (by omega) t 1000 (by decide) (by decide) (ofP w t) (List.take_of_length_le (by have := ofP_le w t; omega)) 1000 rfl (hS.swap))
              have HNE : Hid (ofP w t ≠ []) := Lib.hid (fun e => by
                obtain ⟨x, hx⟩ := (HME.out t).1 (List.mem_of_getElem? ht)
                have := mem_ofP.2 hx
                rw [e] at this; cases this)
              have HTT : Hid (inT w (T.take (k + 1)) = inT w (T.take k) + (ofP w t).length) := Lib.hid (by rw [List.take_add_one, ht]; exact inT_app (tops_notin HRI.out ht))
              have HIL : Hid (inT w (T.take (k + 1)) ≤ w.length) := Lib.hid (List.length_filter_le _ _)
              have HTK := Lib.hid ht
              have HEL := Lib.hid hel
              clear hel ht
              go_wp2_with fail
              refine HO.out.mono ?_
              rintro e w4 ⟨oa, oc, rfl, h4⟩
              have HM : Hid (∀ x ∈ ofP w t, (t, x) ∈ w) := Lib.hid (fun x hx => mem_ofP.1 hx)
              have HND := Lib.hid (ofP_nodup HI.out.nd t)
              obtain ⟨L, hL⟩ : ∃ L, ofP w t = L := ⟨_, rfl⟩
              rw [hL] at HNE HTT h4 HM HND ⊢
              obtain ⟨ln, hln⟩ : ∃ n, L.length = n := ⟨_, rfl⟩
              rw [hln] at HTT h4 ⊢
              have hln0 : 0 < ln := by rw [← hln]; exact List.length_pos_iff.2 HNE.out
              have hlw : ln ≤ 150 := by have h1 := ofP_le w t; rw [hL] at h1; omega
              have HLN := Lib.hid hln
              have hz : ((ln : Int) == 0) = false := by rw [beq_eq_false_iff_ne]; omega
              have h5 := h4.eq (B := star (Row 9 1 (.slice (some ⟨tb, tq, none⟩) tn tc) tn (T.map kS)) (star (Row 3 1 (.slice oa ln oc) ln (L.map kI)) (star (IsR p w) emp))) (by ac_rfl)
              clear HO hL hln het
              go_upto_region 20 with fail
              go_cut [100] from 82 to 99 (fun s wx => s = .bool false ∧ St W wx (star (Row 9 1 (.slice (some ⟨tb, tq, none⟩) tn tc) tn (T.map kS)) (star (Row 3 1 (.slice oa ln oc) ln (L.map kI)) (star (IsR p w) emp))))
              case first =>
                by_cases hk0 : k = 0
                · subst hk0
                  go_big_quiet (fail)
                  go_wp2_with fail
                  go_meet
                  exact ⟨rfl, h5.drewN nq⟩
                · obtain ⟨q, rfl⟩ : ∃ q, k = q + 1 := ⟨k - 1, by omega⟩
                  obtain ⟨s, hs⟩ : ∃ s, T[q]? = some s := ⟨_, List.getElem?_eq_getElem (by rw [HTN.out]; omega)⟩
                  have g1 : decide ((0 : Int) < ((q + 1 : Nat) : Int)) = true := by rw [decide_eq_true_iff]; omega
                  have g2 : IntKind.i64.wrap (((q + 1 : Nat) : Int) - 1) = (q : Int) := by rw [IntKind.wrap_i64]; omega
                  have g3 : ((q + 1 : Nat) : Int) - 1 = (q : Int) := by omega
                  have g4 : (q : Int) < tn := by omega
                  have g5 : IntKind.i64.wrap (q : Int) = (q : Int) := by rw [IntKind.wrap_i64]; omega
                  have hst : Op.bytesLess s t = true := by rw [less_lt]; simpa using tops_next HRI.out hs HTK.out
                  have c1 : w4.cell? ⟨tb, tq + q, none⟩ = some (kS s) := elS_at h5.rowSl hs
                  have c2 : w4.cell? ⟨tb, tq + (q + 1), none⟩ = some (kS t) := elS_at h5.rowSl HTK.out
                  clear hs
                  go_big_quiet (fail)
                  go_wp2_with fail
                  go_meet
                  exact ⟨rfl, h5.drewN nq⟩
              case rest =>
                obtain ⟨rfl, h6⟩ := hcut
                clear h5 h4
                have hmm := @run_makeMap Try.prog
                have h7 := St.newMp kI h6
                go_wp2_with fail
                generalize wc.heap.size = mb at *
                clear h6 hmm
                go_loopw [6, 10] (fun nv jv wr => ∃ (j : Nat) (es : List (Int × Value)), j ≤ ln ∧ jv = .int .i64 j ∧ nv = .int .i64 (inT w (T.take k) + j : Nat) ∧ One es (L.take j) ∧ St W wr (star (Mp kI mb es) (star (Row 9 1 (.slice (some ⟨tb, tq, none⟩) tn tc) tn (T.map kS)) (star (Row 3 1 (.slice oa ln oc) ln (L.map kI)) (star (IsR p w) emp))))) (fun _ jv _ => ln - (intOf jv).toNat)
                case atStart => exact ⟨0, [], Nat.zero_le _, rfl, rfl, One.nil, h7⟩
                case round =>
                  obtain ⟨j, es, hj, rfl, rfl, hone, hS⟩ := hrel
                  have HONE := Lib.hid hone
                  clear hone h7
                  by_cases hjn : j < ln
                  · obtain ⟨x, hx⟩ : ∃ x, L[j]? = some x := ⟨_, List.getElem?_eq_getElem (by rw [HLN.out]; exact hjn)⟩
                    obtain ⟨lb, lq, rfl, hel⟩ := elI hS.right.right.rowSl hx
                    have hjnI : (j : Int) < ln := by omega
                    have c1 := elI_at hS.drew.right.right.rowSl hx
                    have c2 := elS_at hS.drew.right.rowSl HTK.out
                    have hnx : x ∉ L.take j := fun hm => by
                      obtain ⟨j2, hj2⟩ := List.getElem?_of_mem hm
                      rw [List.getElem?_take] at hj2
                      split at hj2
                      · rename_i hlt
                        have := (List.getElem?_inj (List.getElem?_eq_some_iff.1 hx).1 HND.out).1 (hx.trans hj2.symm)
                        omega
                      · cases hj2
                    have hlk : (Instr.lookup 48 (.map (some mb)) (.int .i64 x) false).run Try.prog wr.drew = .ok (.int .i64 0) wr.drew := by
                      have h1 := run_lookup (P := Try.prog) (t := 48) cI Try.underlying48 Try.underlying3 (Try.zeroValue3 wr.drew) hS.drew x false
                      rw [HONE.out.got, if_neg hnx] at h1
                      exact h1
                    clear hnx
                    have hxw : (t, x) ∈ w := HM.out x (List.mem_of_getElem? hx)
                    have HH := Lib.hid (Hears_at p w (by omega) t x true (by simpa using hxw) ((hS.drew).eq (B := star (IsR p w) (star (Mp kI mb es) (star (Row 9 1 (.slice (some ⟨tb, tq, none⟩) tn tc) tn (T.map kS)) (star (Row 3 1 (.slice (some ⟨lb, lq, none⟩) ln oc) ln (L.map kI)) emp)))) (by ac_rfl)))
                    have HX := Lib.hid hx
                    have HTM : Hid (t ∈ byP w x) := Lib.hid (mem_byP.2 hxw)
                    have HLS : Hid (L.take (j + 1) = L.take j ++ [x]) := Lib.hid (by rw [List.take_add_one, hx]; rfl)
                    clear hel hx hxw
                    go_wp2_with fail
                    refine wp_region_canon [0, 1, 2, 3, 4, 5, 6, 7, 8, 9, 10, 11, 12, 13, 14, 15, 16, 17, 18, 19] (by kernel_rfl) (by kernel_rfl) ?_
                    simp only [pickOps, nthOp]
                    go_wp2_with fail
                    refine HH.out.mono ?_
                    rintro e w5 ⟨rfl, h8⟩
                    have h9 := h8.eq (B := star (Mp kI mb es) (star (Row 3 1 (.slice (some ⟨lb, lq, none⟩) ln oc) ln (L.map kI)) (star (IsR p w) (star (Row 9 1 (.slice (some ⟨tb, tq, none⟩) tn tc) tn (T.map kS)) emp)))) (by ac_rfl)
                    have c3 := elI_at h9.right.rowSl HX.out
                    clear HH h8 hS hlk
                    go_wp2_with fail
                    simp only [Only]
                    go_wp2_with (at_mapUpdate; refine wpList_mapUpdate cI rfl (.tmp 128) (.tmp 132) (.const (.int .i64 1)) rfl Try.underlying48 Try.underlying3 rfl h9 x (.int .i64 1) rfl rfl ?_; intro w11 h11; have c4 := elI_at h11.right.rowSl HX.out; have HB := Lib.hid (By_any p w (by omega) x (h11.eq (B := star (IsR p w) (star (Mp kI mb (putM x (.int .i64 1) es)) (star (Row 9 1 (.slice (some ⟨tb, tq, none⟩) tn tc) tn (T.map kS)) (star (Row 3 1 (.slice (some ⟨lb, lq, none⟩) ln oc) ln (L.map kI)) emp)))) (by ac_rfl))))
                    clear c1 c2 c3 h9 h11
                    refine HB.out.mono ?_
                    rintro e w12 ⟨yb, yc, rfl, h12⟩
                    have hbl := byP_le w x
                    obtain ⟨BY, hBY⟩ : ∃ B, byP w x = B := ⟨_, rfl⟩
                    rw [hBY] at HTM h12 hbl ⊢
                    obtain ⟨bn, hbn⟩ : ∃ n, BY.length = n := ⟨_, rfl⟩
                    rw [hbn] at h12 hbl ⊢
                    have HBN := Lib.hid hbn
                    clear hBY hbn HB c4
                    go_wp2_with fail
                    go_loopw [11, 13] (fun thv mv wr => ∃ m : Nat, m ≤ bn ∧ mv = .int .i64 m ∧ thv = .bool (decide (t ∈ BY.take m)) ∧ St W wr (star (Row 9 1 (.slice yb bn yc) bn (BY.map kS)) (star (IsR p w) (star (Mp kI mb (putM x (.int .i64 1) es)) (star (Row 9 1 (.slice (some ⟨tb, tq, none⟩) tn tc) tn (T.map kS)) (star (Row 3 1 (.slice (some ⟨lb, lq, none⟩) ln oc) ln (L.map kI)) emp)))))) (fun _ mv _ => bn - (intOf mv).toNat)
                    case atStart => exact ⟨0, Nat.zero_le _, rfl, by simp, h12⟩
                    case round =>
                      obtain ⟨m, hm, rfl, rfl, hS⟩ := hrel
                      clear h12
                      by_cases hmn : m < bn
                      · obtain ⟨y, hy⟩ : ∃ y, BY[m]? = some y := ⟨_, List.getElem?_eq_getElem (by rw [HBN.out]; exact hmn)⟩
                        obtain ⟨zb, zq, rfl, -⟩ := elS hS.rowSl hy
                        have c1 := elS_at hS.drew.rowSl hy
                        have c2 := elS_at hS.drew.right.right.right.rowSl HTK.out
                        have hmnI : (m : Int) < bn := by omega
                        have HY := Lib.hid hy
                        have HMS : Hid (decide (t ∈ BY.take (m + 1)) = (decide (t ∈ BY.take m) || (y == t))) := Lib.hid (by
                          rw [List.take_add_one, hy]
                          by_cases h1 : t ∈ BY.take m
                          · simp [h1]
                          · by_cases h2 : y = t
                            · simp [h2]
                            · simp [h1, h2, Ne.symm h2])
                        clear hy
                        cases hth : decide (t ∈ BY.take m)
                        · rw [hth] at HMS
                          clear hth
                          cases hyt : (y == t)
                          · rw [hyt] at HMS
                            go_wp2_with fail
                            refine wp_region_canon [0, 1, 2, 3, 4, 5, 6, 7, 8, 9, 10, 11, 12] (by kernel_rfl) (by kernel_rfl) ?_
                            simp only [pickOps, nthOp]
                            go_wp2_with fail
                            simp only [Only]
                            go_wp2_with fail
                            exact ⟨⟨m + 1, hmn, by go_num, by rw [HMS.out]; rfl, hS.drew⟩, by simp [intOf]; omega⟩
                          · rw [hyt] at HMS
                            go_wp2_with fail
                            refine wp_region_canon [0, 1, 2, 3, 4, 5, 6, 7, 8, 9, 10, 11, 12] (by kernel_rfl) (by kernel_rfl) ?_
                            simp only [pickOps, nthOp]
                            go_wp2_with fail
                            simp only [Only]
                            go_wp2_with fail
                            exact ⟨⟨m + 1, hmn, by go_num, by rw [HMS.out]; rfl, hS.drew⟩, by simp [intOf]; omega⟩
                        · rw [hth] at HMS
                          clear hth
                          go_wp2_with fail
                          refine wp_region_canon [0, 1, 2, 3, 4, 5, 6, 7, 8, 9, 10, 11, 12] (by kernel_rfl) (by kernel_rfl) ?_
                          simp only [pickOps, nthOp]
                          go_wp2_with fail
                          simp only [Only]
                          go_wp2_with fail
                          exact ⟨⟨m + 1, hmn, by go_num, by rw [HMS.out]; rfl, hS.drew⟩, by simp [intOf]; omega⟩
                      · obtain rfl : bn = m := by omega
                        have hth : decide (t ∈ BY.take bn) = true := by rw [List.take_of_length_le (by rw [HBN.out]; exact Nat.le_refl _)]; simpa using HTM.out
                        rw [hth]
                        have hsum := HTT.out
                        have hil := HIL.out
                        have hw1 : IntKind.i64.wrap ((inT w (T.take k) + j : Nat) + 1 : Int) = ((inT w (T.take k) + (j + 1) : Nat) : Int) := by rw [IntKind.wrap_i64]; omega
                        have HW1 := Lib.hid hw1
                        clear hth hw1
                        go_wp2_with fail
                        exact ⟨⟨j + 1, _, hjn, by go_num, by first | rfl | (rw [← HW1.out]; rfl) | go_num, by rw [HLS.out]; exact HONE.out.put x, (hS.right).eq (by ac_rfl)⟩, by simp [intOf]; omega⟩
                  · obtain rfl : ln = j := by omega
                    go_wp2_with fail
                    exact ⟨⟨k + 1, hkn, by go_num, by rw [HTT.out], hS.right.eq (B := star (Row 3 1 (.slice oa ln oc) ln (L.map kI)) (star (Row 9 1 (.slice (some ⟨tb, tq, none⟩) tn tc) tn (T.map kS)) (star (IsR p w) emp))) (by ac_rfl) |>.right⟩, by simp [intOf]; omega⟩
            · obtain rfl : tn = k := by omega
              have e1 : inT w (T.take tn) = w.length := by rw [List.take_of_length_le (by rw [HTN.out]; exact Nat.le_refl _)]; exact HTL.out
              rw [e1]
              have hmm := @run_makeMap Try.prog
              have h7 := St.newMp kI hS
              clear e1
              go_wp2_with fail
              generalize wr.heap.size = mb at *
              clear hS hmm
              go_loopw [6, 15] (fun nv kv wr => ∃ (k : Nat) (es : List (Int × Value)), k ≤ i + 1 ∧ kv = .int .i64 k ∧ nv = .int .i64 (outK w (keysT xs k) : Nat) ∧ One es (keysT xs k) ∧ St W wr (star (Mp kI mb es) (star (Row 9 1 (.slice ta tn tc) tn (T.map kS)) (star (IsR p w) emp)))) (fun _ kv _ => i + 1 - (intOf kv).toNat)
              case atStart => exact ⟨0, [], Nat.zero_le _, rfl, by rw [show keysT xs 0 = [] from rfl, outK_nil], One.nil, h7⟩
              case round =>
                obtain ⟨k, es, hk, rfl, rfl, hone, hS⟩ := hrel
                have HONE := Lib.hid hone
                clear hone h7
                by_cases hki : k ≤ i
                · obtain ⟨y, hy⟩ : ∃ y, xs[k]? = some y := ⟨_, List.getElem?_eq_getElem (by rw [HLEN.out]; omega)⟩
                  obtain ⟨yd, yt, yk⟩ := y
                  have c1 := act_at HSL.out hy _ _ hS 2 _ rfl
                  have hkiI : (k : Int) ≤ i := by omega
                  have hklI : (k : Int) < len0 := by omega
                  have HKS : Hid (keysT xs (k + 1) = keysT xs k ++ [yk]) := Lib.hid (keysT_succ hy)
                  have hlk : (Instr.lookup 48 (.map (some mb)) (.int .i64 yk) false).run Try.prog wr = .ok (.int .i64 (if yk ∈ keysT xs k then 1 else 0)) wr := by
                    have h1 := run_lookup (P := Try.prog) (t := 48) cI Try.underlying48 Try.underlying3 (Try.zeroValue3 wr) hS yk false
                    rw [HONE.out.got] at h1
                    exact h1
                  have HY := Lib.hid hy
                  clear hy
                  by_cases hin2 : yk ∈ keysT xs k
                  · rw [if_pos hin2] at hlk
                    have HO2 := Lib.hid (outK_in (w := w) hin2)
                    clear hin2
                    go_wp2_with (at_mapUpdate; refine wpList_mapUpdate cI rfl (.tmp 185) (.tmp 190) (.const (.int .i64 1)) rfl Try.underlying48 Try.underlying3 rfl hS yk (.int .i64 1) rfl rfl ?_; intro w11 h11)
                    exact ⟨⟨k + 1, _, by omega, by go_num, by rw [HKS.out, HO2.out], by rw [HKS.out]; exact HONE.out.put yk, h11⟩, by simp [intOf]; omega⟩
                  · rw [if_neg hin2] at hlk
                    have ho := outK_app (w := w) hin2
                    rw [← HKS.out] at ho
                    have hol : outK w (keysT xs k) ≤ w.length := List.length_filter_le _ _
                    have hw1 : IntKind.i64.wrap ((outK w (keysT xs k) : Int) - ((byP w yk).length : Int)) = (outK w (keysT xs (k + 1)) : Int) := by rw [IntKind.wrap_i64]; omega
                    have hw2 : (outK w (keysT xs k) : Int) - ((byP w yk).length : Int) = (outK w (keysT xs (k + 1)) : Int) := by omega
                    have HW3 : Hid (wrap64 (outK w (keysT xs (k + 1)) : Int) = (outK w (keysT xs (k + 1)) : Int)) := Lib.hid (by unfold wrap64; omega)
                    have HB := Lib.hid (By_any p w (by omega) yk (hS.eq (B := star (IsR p w) (star (Mp kI mb es) (star (Row 9 1 (.slice ta tn tc) tn (T.map kS)) emp))) (by ac_rfl)))
                    clear hin2 ho hol
                    go_wp2_with fail
                    refine HB.out.mono ?_
                    rintro e w12 ⟨yb, yc, rfl, h12⟩
                    have h13 := (h12.right).eq (B := star (Mp kI mb es) (star (Row 9 1 (.slice ta tn tc) tn (T.map kS)) (star (IsR p w) emp))) (by ac_rfl)
                    have c2 := act_at HSL.out HY.out _ _ h13 2 _ rfl
                    clear HB h12 hlk c1 hS
                    go_wp2_with (at_mapUpdate; refine wpList_mapUpdate cI rfl (.tmp 185) (.tmp 190) (.const (.int .i64 1)) rfl Try.underlying48 Try.underlying3 rfl h13 yk (.int .i64 1) rfl rfl ?_; intro w11 h11)
                    exact ⟨⟨k + 1, _, by omega, by go_num, by rw [HW3.out], by rw [HKS.out]; exact HONE.out.put yk, h11⟩, by simp [intOf]; omega⟩
                · obtain rfl : k = i + 1 := by omega
                  have e1 : outK w (keysT xs (i + 1)) = 0 := outK_all (fun x hx => (HI.out.mem x hx).2)
                  rw [e1]
                  have hkiI : ¬ ((i : Int) + 1 ≤ i) := by omega
                  clear e1
                  go_wp2_with fail
                  exact ⟨⟨i + 1, w, hin, by go_num, HI.out, hS.right.right⟩, by simp [intOf]; omega⟩
      · obtain rfl : i = len0 := by omega
        have HWK := Lib.hid (wakes_any wr)
        go_wp2_with fail
        refine HWK.out.mono ?_
        rintro e w9 hq
        have h9 := hS.makes hq
        obtain ⟨rfl, -⟩ := hq
        go_wp2
        go_ret
        exact ⟨rfl, h9.forget⟩
  · have HWK := Lib.hid (wakes_any w1)
    go_wp2_with fail
    refine HWK.out.mono ?_
    rintro e w9 hq
    have h9 := h1.makes hq
    obtain ⟨rfl, -⟩ := hq
    go_wp2
    go_ret
    exact ⟨rfl, h9.forget⟩
end Go.Proofs.Ythaekkmnglhinaa.TpZ
