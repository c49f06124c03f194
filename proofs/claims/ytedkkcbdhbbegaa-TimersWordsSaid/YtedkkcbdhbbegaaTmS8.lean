import Derived.Test.YtedkkcbdhbbegaaRngB
import Derived.Test.YtedkkcbdhbbegaaTmS7
import Derived.Test.YtedkkcbdhbbegaaFork
import Derived.WalkLawsBesides
import Derived.WalkSpells
import Derived.Test.YtedkkcbdhbbegaaRng
import Derived.OwnWalkIn
import Derived.TacticsInMore
import Derived.LoopNIn
import Derived.LoopIn
namespace Go.Proofs.Ytedkkcbdhbbegaa.TmS8
open Go Go.RowKit Go.Proofs Go.Proofs.Ytedkkcbdhbbegaa.Sep Go.Proofs.Ytedkkcbdhbbegaa.Reg Go.Proofs.Ytedkkcbdhbbegaa.Frame Go.Proofs.Ytedkkcbdhbbegaa.Slc Go.Proofs.Ytedkkcbdhbbegaa.Fork Go.Proofs.Ytedkkcbdhbbegaa.TmP Go.Proofs.Ytedkkcbdhbbegaa.TmQ Go.Proofs.Ytedkkcbdhbbegaa.Rng Go.Proofs.Ytedkkcbdhbbegaa.RngA Go.Proofs.Ytedkkcbdhbbegaa.RngB Go.Proofs.Ytedkkcbdhbbegaa.TmS Go.Proofs.Ytedkkcbdhbbegaa.TmS2 Go.Proofs.Ytedkkcbdhbbegaa.TmS3 Go.Proofs.Ytedkkcbdhbbegaa.TmS4 Go.Proofs.Ytedkkcbdhbbegaa.TmS5 Go.Proofs.Ytedkkcbdhbbegaa.TmS6 Go.Proofs.Ytedkkcbdhbbegaa.TmS7

theorem infoK : (Try.prog.info? 9).map (fun i => (i.zero, i.size, i.bytes)) = some (some (.string ByteArray.empty), 1, 16) := by kernel_rfl
theorem outP_stop {now : Int} {pre post : List (κ × Int)} {x : κ × Int} (h : ¬ x.2 ≤ now) : outP now (pre ++ x :: post) = outP now pre := by
  unfold outP
  congr 1
  induction pre with
  | nil => simp [h]
  | cons y r ih => simp only [List.cons_append, List.takeWhile_cons, ih]
theorem outP_go {now : Int} {pre post : List (κ × Int)} {x : κ × Int} (hs : Srt ltK (pre ++ x :: post)) (h : x.2 ≤ now) : outP now (pre ++ [x]) = outP now pre ++ [x.1] := by
  have hp : ∀ y ∈ pre, y.2 ≤ now := fun y hy => by
    have := (List.pairwise_append.1 hs).2.2 y hy x (by simp)
    have : y.2 ≤ x.2 := by
      simp only [bef, Bool.or_eq_true, Bool.and_eq_true, decide_eq_true_eq] at this
      omega
    omega
  unfold outP
  rw [List.takeWhile_append_of_pos (by simpa using hp)]
  have e : pre.takeWhile (fun x => decide (x.2 ≤ now)) = pre := by
    have := List.takeWhile_append_of_pos (l₁ := pre) (l₂ := []) (p := fun x : κ × Int => decide (x.2 ≤ now)) (by simpa using hp)
    simpa using this
  rw [e]
  simp [h, keysOf]
def Br (Θ : Asn) : Code → Asn
  | .exit 0 => Θ
  | _ => No
/-- A range over all timers. -/
theorem range_all {W w : World} {m : Nat} {g : Operand} {params : Array Tmp} {assign body : Code} {Q : Exit → Act → World → Prop} {a : Act} (a₁ : κ × Int → Act) (p b : Nat) (v : Value) (l : List (κ × Int)) (hl : l.length ≤ 1000000) (Φ : List (κ × Int) → Asn) (Θ : Asn)
    (hg : a.eval g = .func (.func 49) #[] #[.pointer (some ⟨b, 0, none⟩)]) (hps : params.size = 2) (h : St W w (Φ []))
    (hcells : ∀ w, St W w (Φ []) → w.cell? ⟨b, 0, none⟩ = some (.pointer (some ⟨p, 0, none⟩)) ∧ w.cell? ⟨p, 0, none⟩ = some v ∧ Sl w 2 v l.length (tsV l))
    (hassign : ∀ x l0 w (K : Act → World → Prop), K (a₁ x) w → assign.wpIn (Fence.wide.inRound l0) m Try.prog (Exit.then K (fun _ _ _ => False)) { tmps := (params.zip #[kv x.1, .int .i64 x.2]).foldl (fun tmps (t, a) => tmps.setIfInBounds t a) a.tmps, defers := [] } w)
    (hround : ∀ pre x post, l = pre ++ x :: post → ∀ l0 busy C w2, St W w2 (star (pt l0 (.loop busy)) (star C (Φ pre))) → body.wpIn (Fence.wide.inRound l0) m Try.prog (RPost W l0 busy (star C (Φ (pre ++ [x]))) (fun c => star C (Br Θ c))) (a₁ x) w2)
    (hQ : ∀ a w, Q .normal a w → Q (.exit 0) a w)
    (hdone : ∀ D w4, St W w4 (star (pt D (.deferred (some []))) (Φ l)) ∨ St W w4 (star (pt D (.deferred (some []))) Θ) → Q .normal { a with defers := { target := .collected D, args := #[] } :: a.defers } w4) :
    (Code.rangeFunc g params assign body).wpIn Fence.wide (m + 2) Try.prog Q a w := by
  refine range_St (Φ := Φ l) (Ψ := Br Θ) rfl (by omega) hg trivial (enters_of Try.func49 (by kernel_rfl) rfl) h ?_ (fun D w4 h4 => hdone D w4 (.inl h4)) (fun D c w4 h4 => ?_)
  rotate_left
  · unfold Br at h4
    split at h4
    · exact wpIn_exit (hQ _ _ (hdone D w4 (.inr h4)))
    · exact (St.no h4).elim
  intro fn l0 D w1 hfn hS
  obtain ⟨hb, hp, hsl⟩ := hcells _ hS.right.right
  refine All1_any p b l0 m v l hl (fun pre => star (pt l0 (.loop (rec fn a.tmps params assign body D .ready none))) (star (pt D (.deferred (some []))) (Φ pre)))
    (fun c => star (pt l0 (.loop (rec fn a.tmps params assign body D .done (some c)))) (star (pt D (.deferred (some []))) (Br Θ c))) ?_ hS hb hp hsl
  intro pre x post hx C w2 h2
  have h3 : St W w2 (star (pt l0 (.loop (rec fn a.tmps params assign body D .ready none))) (star (star (pt D (.deferred (some []))) C) (Φ pre))) := h2.eq (by ac_rfl)
  refine YieldAt.mono (yield_St (a₁ := a₁ x) (Φ := star (star (pt D (.deferred (some []))) C) (Φ (pre ++ [x]))) (Ψ := fun c => star (star (pt D (.deferred (some []))) C) (Br Θ c)) hfn (by rw [hps]; rfl) h3 (fun K hK => hassign x l0 w2 K hK) (fun w3 hw3 => hround pre x post hx l0 _ _ w3 hw3)) ?_
  rintro e w4 (⟨rfl, h4⟩ | ⟨rfl, c, h4⟩)
  · exact .inl ⟨rfl, h4.eq (by ac_rfl)⟩
  · exact .inr ⟨rfl, c, h4.eq (by ac_rfl)⟩

def outV (now : Int) (l : List (κ × Int)) : List Value := (outP now l).map kv
theorem out_at {now : Int} {l : List (κ × Int)} (i : Nat) (hi : i < (outP now l).length) : ∃ x, l[i]? = some x ∧ (outV now l)[i]? = some (kv x.1) := by
  have e := out_rest now l
  have hi2 : i < (l.takeWhile fun x => decide (x.2 ≤ now)).length := by simpa [outP, keysOf] using hi
  obtain ⟨x, hx⟩ : ∃ x, (l.takeWhile fun x => decide (x.2 ≤ now))[i]? = some x := ⟨_, List.getElem?_eq_getElem hi2⟩
  refine ⟨x, ?_, ?_⟩
  · rw [← e, List.getElem?_append_left hi2]; exact hx
  · simp [outV, outP, keysOf, hx]
theorem drop_out (now : Int) (l : List (κ × Int)) : l.drop (outP now l).length = restP now l := by
  have e := out_rest now l
  have h : (outP now l).length = (l.takeWhile fun x => decide (x.2 ≤ now)).length := by simp [outP, keysOf]
  rw [h]
  calc l.drop (l.takeWhile fun x => decide (x.2 ≤ now)).length = ((l.takeWhile fun x => decide (x.2 ≤ now)) ++ restP now l).drop (l.takeWhile fun x => decide (x.2 ≤ now)).length := by rw [e]
    _ = restP now l := List.drop_left
theorem cancel_head {l : List (κ × Int)} {i : Nat} {k : κ} {d : Int} (hx : l[i]? = some (k, d)) : cancelP k (l.drop i) = l.drop (i + 1) := by
  obtain ⟨hil, hx⟩ := List.getElem?_eq_some_iff.1 hx
  rw [List.drop_eq_getElem_cons hil, hx]
  simp [cancelP]
/-- What lies while all are ranged over. -/
def PopI (bx ob nb p : Nat) (v : Value) (l : List (κ × Int)) (now : Int) (R : Asn) (pre : List (κ × Int)) : Asn :=
  star (pt bx (.cells #[.pointer (some ⟨p, 0, none⟩)] 50 (0, 0))) (star (Held ob 48 9 (outP now pre).length (outV now pre)) (star (pt nb (.cells #[.int .i64 now] 3 (0, 0))) (star (IsT p v l) R)))
attribute [local go_sem] Oper.semAt_some
def PPost (W : World) (p : Nat) (l : List (κ × Int)) (now : Int) (R : Asn) (e : Ending) (w' : World) : Prop :=
  ∃ o v, e = .returned o ∧ St W w' (star (Row 9 1 o (outP now l).length (outV now l)) (star (IsT p v (restP now l)) R))
set_option maxRecDepth 100000 in
set_option maxHeartbeats 8000000 in
theorem Pop_any (p : Nat) (v : Value) (l : List (κ × Int)) (hs : Srt ltK l) (hl : l.length ≤ 1000000) (now : Int) {W w : World} {R : Asn} (h : St W w (star (IsT p v l) R)) :
    Calls Try.prog 23 #[.pointer (some ⟨p, 0, none⟩), .int .i64 now] w (PPost W p l now R) := by
  have h1 := h.alloc (.cells #[.int .i64 now] 3)
  have h2 := h1.alloc (.cells #[.slice none 0 0] 48)
  rw [World.size_alloc] at h2
  have HA := Lib.hid (All_any p h2)
  refine (callsIn_wide (n := 3)).1 (callsIn_of_wp_marks Try.func23 rfl trivial ?_ rfl)
  simp only [Try.ntmps23, List.size_toArray, List.length_cons, List.length_nil, Nat.reduceAdd, Nat.reduceSub, Array.replicate_succ, Array.replicate_zero, List.push_toArray, List.append_toArray, List.nil_append, List.cons_append]
  gi_wp2_with fail
  refine ⟨trivial, callsIn_wide.2 (HA.out.mono ?_)⟩
  rintro e w3 ⟨b, rfl, h3⟩
  clear h1 h2 HA
  generalize w.heap.size = nb at *
  obtain ⟨ob, hob⟩ : ∃ ob, nb + 1 = ob := ⟨_, rfl⟩
  rw [hob] at h3
  rw [hob]
  have h4 : St W w3 (PopI b ob nb p v l now R []) := by
    have h5 := h3.swap.nilRow (e := 9) (size := 1)
    unfold PopI
    rw [show outV now ([] : List (κ × Int)) = [] from rfl, show outP now ([] : List (κ × Int)) = [] from rfl]
    have h6 := St.toHeld h5.swap
    exact h6.swap
  gi_wp2_with fail
  refine range_all (m := 1) (fun x => { tmps := #[.pointer (some ⟨p, 0, none⟩), .int .i64 now, undef, .pointer (some ⟨nb, 0, none⟩), .slice none 0 0, .pointer (some ⟨ob, 0, none⟩), kv x.1, .int .i64 x.2, undef, undef, .pointer (some ⟨p, 0, none⟩), .func (.func 49) #[] #[.pointer (some ⟨b, 0, none⟩)], kv x.1, .int .i64 x.2, undef, undef, undef, undef, undef, undef, undef, undef, undef, undef, undef, undef, undef, undef, undef, undef, undef, undef], defers := [] }) p b v l hl (PopI b ob nb p v l now R) (PopI b ob nb p v l now R l) rfl rfl h4 ?cells ?assign ?round (fun _ _ h => h) ?done
  case cells =>
    intro w5 h5
    unfold PopI at h5
    have h6 := St.isT h5.right.right.right
    exact ⟨h5.cell 0 rfl, h6.cell 0 rfl, h6.right.rowSl⟩
  case assign =>
    rintro ⟨k, d⟩ l0 w5 K hK
    gi_wp2_with fail
    exact hK
  case round =>
    rintro pre ⟨k, d⟩ post hx0 l0 busy C w5 h5
    have hx := Lib.hid hx0
    clear hx0
    obtain ⟨ov, h6⟩ := St.held (R := star (pt nb (.cells #[.int .i64 now] 3 (0, 0))) (star (pt l0 (.loop busy)) (star C (star (pt b (.cells #[.pointer (some ⟨p, 0, none⟩)] 50 (0, 0))) (star (IsT p v l) R))))) (h5.eq (by unfold PopI; ac_rfl))
    have hnb := h6.right.right.cell 0 rfl
    by_cases hd : d ≤ now
    · have hob := h6.cell 0 rfl
      have hlen : (outP now pre).length ≤ 1000000 := by
        have h1 : (outP now pre).length ≤ pre.length := by unfold outP keysOf; rw [List.length_map]; exact (List.takeWhile_sublist _).length_le
        have h2 : pre.length ≤ l.length := by rw [hx.out]; simp
        omega
      have h7 := h6.alloc (.cells #[.string ⟨k.toArray⟩] 9)
      have h8 : St W (w5.alloc (.cells #[.string ⟨k.toArray⟩] 9)) (star (Row 9 1 ov (outP now pre).length (outV now pre)) (star (pt ob (.cells #[ov] 48 (0, 0))) (star (pt nb (.cells #[.int .i64 now] 3 (0, 0))) (star (pt l0 (.loop busy)) (star C (star (pt b (.cells #[.pointer (some ⟨p, 0, none⟩)] 50 (0, 0))) (star (IsT p v l) R))))))) := (h7.right).eq (by ac_rfl)
      have hone : Sl (w5.alloc (.cells #[.string ⟨k.toArray⟩] 9)) 1 (.slice (some ⟨w5.heap.size, 0, none⟩) 1 1) 1 [.string ⟨k.toArray⟩] := ⟨rfl, _, _, rfl, Nat.le_refl _, by decide, (by intro h; cases h), fun ad hd i u hu => by
        cases hd
        have hadd : (⟨w5.heap.size, 0, none⟩ : Addr).add i = ⟨w5.heap.size, i, none⟩ := by unfold Addr.add; split <;> simp_all
        rw [hadd]
        exact h7.cell i (by simpa using hu)⟩
      obtain ⟨i0, hi0, hz0, hz1, hz2⟩ := info_parts infoK
      have U := Try.underlying48
      gi_wp2_with (gi_at_builtin; refine wpListIn_append_Sl rfl (.tmp 17) (.tmp 19) 48 rfl 9 i0 (.string ByteArray.empty) 1 16 U hi0 hz0 hz1 hz2 rfl ov _ _ rfl h8 _ 1 [.string ⟨k.toArray⟩] rfl hone (by intro u hu; simp at hu; subst hu; rfl) (by unfold maxLen; omega) (by omega) ?_; intro v9 w9 hS9 hv9; obtain ⟨_, a9, c9, rfl, _⟩ := id hS9.rowSl; have hc9 := hS9.swap.cell 0 rfl; have hf9 := hS9.swap.free 0)
      have h9 := hS9.swap.setCell 0 (.slice a9 ((outP now pre).length + 1) c9)
      have hg := outP_go (now := now) (hx.out ▸ hs) hd
      have e1 : (outP now (pre ++ [(k, d)])).length = (outP now pre).length + 1 := by rw [hg]; simp
      have e2 : outV now (pre ++ [(k, d)]) = outV now pre ++ [kv k] := by unfold outV; rw [hg]; simp
      show St W _ (star (pt l0 (.loop busy)) (star C (PopI b ob nb p v l now R (pre ++ [(k, d)]))))
      exact (St.toHeld h9).eq (by unfold PopI; rw [e1, e2]; ac_rfl)
    · have hd2 : now < d := by omega
      have hg := outP_stop (now := now) (pre := pre) (post := post) (x := (k, d)) hd
      have e1 : outP now l = outP now pre := by rw [hx.out]; exact hg
      gi_wp2_with fail
      show St W _ (star (pt l0 (.loop busy)) (star C (PopI b ob nb p v l now R l)))
      exact (St.toHeld h6).eq (by unfold PopI outV; rw [e1]; ac_rfl)
  case done =>
    rintro D w5 h5
    have h5 : St W w5 (star (pt D (.deferred (some []))) (PopI b ob nb p v l now R l)) := h5.elim id id
    clear h3 h4 h
    obtain ⟨ov, h6⟩ := St.held (R := star (pt D (.deferred (some []))) (star (pt nb (.cells #[.int .i64 now] 3 (0, 0))) (star (pt b (.cells #[.pointer (some ⟨p, 0, none⟩)] 50 (0, 0))) (star (IsT p v l) R)))) (h5.eq (by unfold PopI; ac_rfl))
    have hlen : (outP now l).length ≤ l.length := by unfold outP keysOf; rw [List.length_map]; exact (List.takeWhile_sublist _).length_le
    have HK : Hid (∀ i : Nat, i < (outP now l).length → ∃ x, l[i]? = some x ∧ (outV now l)[i]? = some (kv x.1)) := Lib.hid (fun i hi => out_at i hi)
    have HE : Hid (l.drop (outP now l).length = restP now l) := Lib.hid (drop_out now l)
    have hob := h6.cell 0 rfl
    generalize hn : (outP now l).length = n at *
    obtain ⟨_, oa, oc, rfl, hoc, hom, _⟩ := id h6.right.rowSl
    have hom2 : oc ≤ 9223372036854775807 := by simpa [maxLen] using hom
    gi_wp2_with fail
    gi_loopw [23] (fun iv wr => ∃ i : Nat, i ≤ n ∧ iv = .int .i64 i ∧ ∃ v, St W wr (star (IsT p v (l.drop i)) (star (pt ob (.cells #[.slice oa n oc] 48 (0, 0))) (star (Row 9 1 (.slice oa n oc) n (outV now l)) (star (pt D (.deferred (some []))) R))))) (fun iv _ => n - (intOf iv).toNat)
    case atStart => 
      exact ⟨0, Nat.zero_le _, rfl, v, St.right (A := star (pt nb (.cells #[.int .i64 now] 3 (0, 0))) (pt b (.cells #[.pointer (some ⟨p, 0, none⟩)] 50 (0, 0)))) (h6.eq (by rw [List.drop_zero]; ac_rfl))⟩
    case round =>
      obtain ⟨i, hi, rfl, v2, hS⟩ := hrel
      by_cases hin : i < n
      · obtain ⟨⟨k, d⟩, hx, ho⟩ := HK.out i hin
        obtain ⟨ab, ao, rfl, hoo⟩ := sl_addr hS.right.right.rowSl (by have := (List.getElem?_eq_some_iff.1 ho).1; omega)
        have hk := hoo i _ ho
        have HC := Lib.hid (Cancel_any p v2 (l.drop i) k _ rfl hS)
        have HD : Hid (cancelP k (l.drop i) = l.drop (i + 1)) := Lib.hid (cancel_head hx)
        have hin2 : (i : Int) < n := by omega
        clear hoo hx ho
        gi_wp2_with fail
        refine ⟨trivial, callsIn_wide.2 (HC.out.mono ?_)⟩
        rintro e w7 ⟨rfl, v3, h7⟩
        rw [HD.out] at h7
        gi_wp2_with fail
        exact ⟨⟨i + 1, hin, by go_num, v3, h7⟩, by simp [intOf]; omega⟩
      · obtain rfl : i = n := by omega
        rw [HE.out] at hS
        have hob := hS.right.cell 0 rfl
        have hK := (hS.right.right.right).blk
        gi_wp2_with fail
        refine ⟨by simp, .inl ⟨_, _, rfl, run_takeDeferred hK, ?_⟩⟩
        refine ⟨_, results_tmp rfl _ _ _, _, v2, rfl, ?_⟩
        have h8 : St W wr (star (pt D (.deferred (some []))) (star (pt ob (.cells #[.slice oa i oc] 48 (0, 0))) (star (Row 9 1 (.slice oa i oc) i (outV now l)) (star (IsT p v2 (restP now l)) R)))) := hS.eq (by ac_rfl)
        rw [hn]
        exact (St.putObj h8 _).right.right

end Go.Proofs.Ytedkkcbdhbbegaa.TmS8
