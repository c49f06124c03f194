import Derived.Test.YtdobgebdlbckoaaGreatDoorTpJ
import Derived.LoopNIn
import Derived.LoopIn
import Derived.TacticsInMore
namespace Go.Proofs.YtdobgebdlbckoaaGreatDoor.TpK
open Go Go.RowKit Go.Proofs Go.Proofs.YtdobgebdlbckoaaGreatDoor.Sep Go.Proofs.YtdobgebdlbckoaaGreatDoor.Reg Go.Proofs.YtdobgebdlbckoaaGreatDoor.Frame Go.Proofs.YtdobgebdlbckoaaGreatDoor.Slc Go.Proofs.YtdobgebdlbckoaaGreatDoor.Mp Go.Proofs.YtdobgebdlbckoaaGreatDoor.Ms Go.Proofs.YtdobgebdlbckoaaGreatDoor.Held Go.Proofs.YtdobgebdlbckoaaGreatDoor.Rng Go.Proofs.YtdobgebdlbckoaaGreatDoor.RngA Go.Proofs.YtdobgebdlbckoaaGreatDoor.RngB Go.Proofs.YtdobgebdlbckoaaGreatDoor.TpP Go.Proofs.YtdobgebdlbckoaaGreatDoor.TpA Go.Proofs.YtdobgebdlbckoaaGreatDoor.TpB Go.Proofs.YtdobgebdlbckoaaGreatDoor.TpI Go.Proofs.YtdobgebdlbckoaaGreatDoor.TpJ

/-- A range over those who hear a topic. -/
theorem range_of {W w : World} {m : Nat} {g : Operand} {params : Array Tmp} {assign body : Code} {Q : Exit → Act → World → Prop} {a : Act} (a₁ : Nat → Int → Act) (p b1 b2 : Nat) (t : Tx) (L : List Int) (hl : L.length ≤ 1000000) (Φ : List Int → Asn) (Ψ : Code → Asn)
    (hg : a.eval g = .func (.func 67) #[] #[.pointer (some ⟨b1, 0, none⟩), .pointer (some ⟨b2, 0, none⟩)]) (hps : params.size = 2) (h : St W w (Φ []))
    (hcells : ∀ w, St W w (Φ []) → w.cell? ⟨b1, 0, none⟩ = some (.pointer (some ⟨p, 0, none⟩)) ∧ w.cell? ⟨b2, 0, none⟩ = some (kS t) ∧ Reads w p L t)
    (hassign : ∀ (i : Nat) (x : Int) l0 w (K : Act → World → Prop), K (a₁ i x) w → assign.wpIn (Fence.wide.inRound l0) m Tryz.prog (Exit.then K (fun _ _ _ => False)) { tmps := (params.zip #[.int .i64 i, .int .i64 x]).foldl (fun tmps (t, a) => tmps.setIfInBounds t a) a.tmps, defers := [] } w)
    (hround : ∀ pre x post, L = pre ++ x :: post → ∀ l0 busy C w2, St W w2 (star (pt l0 (.loop busy)) (star C (Φ pre))) → body.wpIn (Fence.wide.inRound l0) m Tryz.prog (RPost W l0 busy (star C (Φ (pre ++ [x]))) (fun c => star C (Ψ c))) (a₁ pre.length x) w2)
    (hdone : ∀ D w4, St W w4 (star (pt D (.deferred (some []))) (Φ L)) → Q .normal { a with defers := { target := .collected D, args := #[] } :: a.defers } w4)
    (hstop : ∀ D c w4, St W w4 (star (pt D (.deferred (some []))) (Ψ c)) → c.wpIn Fence.wide (m + 2) Tryz.prog Q { a with defers := { target := .collected D, args := #[] } :: a.defers } w4) :
    (Code.rangeFunc g params assign body).wpIn Fence.wide (m + 2) Tryz.prog Q a w := by
  refine range_St (Φ := Φ L) (Ψ := Ψ) rfl (by omega) hg trivial (enters_of Tryz.func67 (by kernel_rfl) rfl) h ?_ hdone hstop
  intro fn l0 D w1 hfn hS
  obtain ⟨h1, h2, h3⟩ := hcells _ hS.right.right
  refine Of1_any p b1 b2 l0 m t L hl (fun pre => star (pt l0 (.loop (rec fn a.tmps params assign body D .ready none))) (star (pt D (.deferred (some []))) (Φ pre)))
    (fun c => star (pt l0 (.loop (rec fn a.tmps params assign body D .done (some c)))) (star (pt D (.deferred (some []))) (Ψ c))) ?_ hS h1 h2 h3
  intro pre x post hx C w2 h2
  have h3 : St W w2 (star (pt l0 (.loop (rec fn a.tmps params assign body D .ready none))) (star (star (pt D (.deferred (some []))) C) (Φ pre))) := h2.eq (by ac_rfl)
  refine YieldAt.mono (yield_St (a₁ := a₁ pre.length x) (Φ := star (star (pt D (.deferred (some []))) C) (Φ (pre ++ [x]))) (Ψ := fun c => star (star (pt D (.deferred (some []))) C) (Ψ c)) hfn (by rw [hps]; rfl) h3 (fun K hK => hassign pre.length x l0 w2 K hK) (fun w3 hw3 => hround pre x post hx l0 _ _ w3 hw3)) ?_
  rintro e w4 (⟨rfl, h4⟩ | ⟨rfl, c, h4⟩)
  · exact .inl ⟨rfl, h4.eq (by ac_rfl)⟩
  · exact .inr ⟨rfl, c, h4.eq (by ac_rfl)⟩

/-- What lies while they are ranged over: the number looked for, the word, the two captured cells, the registry. -/
def HI (bk br b1 b2 p : Nat) (k : Int) (t : Tx) (b : Bool) (l : List Pr) (R : Asn) : Asn :=
  star (pt bk (.cells #[kI k] 3 (0, 0))) (star (pt br (.cells #[.bool b] 4 (0, 0))) (star (pt b1 (.cells #[.pointer (some ⟨p, 0, none⟩)] 69 (0, 0))) (star (pt b2 (.cells #[kS t] 9 (0, 0))) (star (IsR p l) R))))
def HF (bk br b1 b2 p : Nat) (k : Int) (t : Tx) (l : List Pr) (R : Asn) (pre : List Int) : Asn := if k ∈ pre then No else HI bk br b1 b2 p k t false l R
def HG (bk br b1 b2 p : Nat) (k : Int) (t : Tx) (l : List Pr) (R : Asn) : Code → Asn
  | .ret => if k ∈ ofP l t then HI bk br b1 b2 p k t true l R else No
  | _ => No
def HPost (W : World) (p : Nat) (l : List Pr) (b : Bool) (R : Asn) (e : Ending) (w' : World) : Prop := e = .returned (.bool b) ∧ St W w' (star (IsR p l) R)
attribute [local go_sem] Oper.semAt_some
set_option maxRecDepth 100000 in
set_option maxHeartbeats 8000000 in
theorem Hears_any (p : Nat) (l : List Pr) (hl : l.length ≤ 1000000) (t : Tx) (k : Int) {W w : World} {R : Asn} (h : St W w (star (IsR p l) R)) :
    Calls Tryz.prog 53 #[.pointer (some ⟨p, 0, none⟩), kS t, .int .i64 k] w (HPost W p l (decide ((t, k) ∈ l)) R) := by
  have h1 := h.alloc (.cells #[kI k] 3)
  have h2 := h1.alloc (.cells #[.bool false] 4)
  rw [World.size_alloc] at h2
  have HA := Lib.hid (Of_any p t h2)
  refine (callsIn_wide (n := 3)).1 (callsIn_of_wp_marks Tryz.func53 rfl trivial ?_ rfl)
  simp only [Tryz.ntmps53, List.size_toArray, List.length_cons, List.length_nil, Nat.reduceAdd, Nat.reduceSub, Array.replicate_succ, Array.replicate_zero, List.push_toArray, List.append_toArray, List.nil_append, List.cons_append]
  gi_wp2_with fail
  refine ⟨trivial, callsIn_wide.2 (HA.out.mono ?_)⟩
  rintro e w3 ⟨b1, b2, rfl, h3⟩
  clear h1 h2 HA
  generalize w.heap.size = bk at *
  obtain ⟨br, hbr⟩ : ∃ br, bk + 1 = br := ⟨_, rfl⟩
  rw [hbr] at h3
  rw [hbr]
  have h4 : St W w3 (HF bk br b1 b2 p k t l R []) := by
    unfold HF HI
    rw [if_neg (by simp)]
    exact h3.eq (by ac_rfl)
  gi_wp2_with fail
  refine range_of (m := 1) (fun i x => { tmps := #[.pointer (some ⟨p, 0, none⟩), kS t, .int .i64 k, undef, undef, .pointer (some ⟨bk, 0, none⟩), .pointer (some ⟨br, 0, none⟩), undef, .int .i64 x, .pointer (some ⟨p, 0, none⟩), kS t, .func (.func 67) #[] #[.pointer (some ⟨b1, 0, none⟩), .pointer (some ⟨b2, 0, none⟩)], .int .i64 i, .int .i64 x, undef, undef, undef], defers := [] })
    p b1 b2 t (ofP l t) (Nat.le_trans (ofP_le l t) hl) (HF bk br b1 b2 p k t l R) (HG bk br b1 b2 p k t l R) rfl rfl h4 ?cells ?assign ?round ?done ?stop
  case cells =>
    intro w5 h5
    unfold HF HI at h5
    rw [if_neg (by simp)] at h5
    exact ⟨h5.right.right.cell 0 rfl, h5.right.right.right.cell 0 rfl, reads_of h5.right.right.right.right t⟩
  case assign =>
    rintro i x l0 w5 K hK
    gi_wp2_with fail
    exact hK
  case round =>
    rintro pre x post hx0 l0 busy C w5 h5
    have hx := Lib.hid hx0
    clear hx0
    by_cases hp : k ∈ pre
    · exact (St.no (R := star (pt l0 (.loop busy)) C) (h5.eq (by unfold HF; rw [if_pos hp]; ac_rfl))).elim
    · have h6 := h5.eq (B := star (pt br (.cells #[.bool false] 4 (0, 0))) (star (pt bk (.cells #[kI k] 3 (0, 0))) (star (pt l0 (.loop busy)) (star C (star (pt b1 (.cells #[.pointer (some ⟨p, 0, none⟩)] 69 (0, 0))) (star (pt b2 (.cells #[kS t] 9 (0, 0))) (star (IsR p l) R))))))) (by unfold HF HI; rw [if_neg hp]; ac_rfl)
      have hbk := h6.right.cell 0 rfl
      have hbr := h6.cell 0 rfl
      have hfr := h6.free 0
      have HP := Lib.hid hp
      clear hp h5
      by_cases hxk : x = k
      · have HE : Hid (k ∈ ofP l t) := Lib.hid (by rw [hx.out]; simp [hxk])
        subst hxk
        gi_wp2_with fail
        have h7 := h6.setCell 0 (.bool true)
        show St W _ (star (pt l0 (.loop busy)) (star C (HG bk br b1 b2 p x t l R .ret)))
        exact h7.eq (by rw [show HG bk br b1 b2 p x t l R .ret = HI bk br b1 b2 p x t true l R from if_pos HE.out]; unfold HI; show star (pt br (.cells #[.bool true] _ _)) _ = _; ac_rfl)
      · have hxb : (x == k) = false := by simpa using hxk
        have HE : Hid (k ∉ pre ++ [x]) := Lib.hid (by have := HP.out; simp only [List.mem_append, List.mem_singleton, not_or]; exact ⟨this, fun e => hxk e.symm⟩)
        gi_wp2_with fail
        show St W _ (star (pt l0 (.loop busy)) (star C (HF bk br b1 b2 p k t l R (pre ++ [x]))))
        exact h6.eq (by unfold HF; rw [if_neg HE.out]; unfold HI; ac_rfl)
  case done =>
    rintro D w5 h5
    by_cases hp : k ∈ ofP l t
    · exact (St.no (R := pt D (.deferred (some []))) (h5.eq (by unfold HF; rw [if_pos hp]))).elim
    · have h6 := h5.eq (B := star (pt br (.cells #[.bool false] 4 (0, 0))) (star (pt D (.deferred (some []))) (star (star (pt bk (.cells #[kI k] 3 (0, 0))) (star (pt b1 (.cells #[.pointer (some ⟨p, 0, none⟩)] 69 (0, 0))) (pt b2 (.cells #[kS t] 9 (0, 0))))) (star (IsR p l) R)))) (by unfold HF HI; rw [if_neg hp]; ac_rfl)
      have hd : Hid (decide ((t, k) ∈ l) = false) := Lib.hid (by rw [decide_eq_false_iff_not, ← mem_ofP]; exact hp)
      have hbr := h6.cell 0 rfl
      have hfr := h6.free 0
      have h7 := h6.setCell 0 (.bool false)
      have hK := h7.right.blk
      have hrc := h7.cell 0 rfl
      clear hp h5 h4 h3
      gi_wp2_with fail
      refine ⟨by simp, .inl ⟨_, _, rfl, run_takeDeferred hK, ?_⟩⟩
      have h10 := St.putObj (h7.swap) (.deferred none)
      have hrd := h10.right.cell 0 rfl
      refine ⟨.bool false, by simp [results, Tryz.results53, go_sem, hrd], by rw [hd.out], ?_⟩
      exact (h10.right.right).right
  case stop =>
    rintro D c w5 h5
    unfold HG at h5
    split at h5
    · by_cases hp : k ∈ ofP l t
      · rw [if_pos hp] at h5
        have h6 := h5.eq (B := star (pt D (.deferred (some []))) (star (pt br (.cells #[.bool true] 4 (0, 0))) (star (star (pt bk (.cells #[kI k] 3 (0, 0))) (star (pt b1 (.cells #[.pointer (some ⟨p, 0, none⟩)] 69 (0, 0))) (pt b2 (.cells #[kS t] 9 (0, 0))))) (star (IsR p l) R)))) (by unfold HI; ac_rfl)
        have hd : Hid (decide ((t, k) ∈ l) = true) := Lib.hid (by rw [decide_eq_true_eq, ← mem_ofP]; exact hp)
        have hK := h6.blk
        have hrc := h6.right.cell 0 rfl
        clear hp h5 h4 h3
        gi_wp2_with fail
        refine ⟨by simp, .inl ⟨_, _, rfl, run_takeDeferred hK, ?_⟩⟩
        have h10 := St.putObj h6 (.deferred none)
        have hrd := h10.right.cell 0 rfl
        refine ⟨.bool true, by simp [results, Tryz.results53, go_sem, hrd], by rw [hd.out], ?_⟩
        exact (h10.right.right).right
      · rw [if_neg hp] at h5
        exact (St.no h5).elim
    · exact (St.no h5).elim
end Go.Proofs.YtdobgebdlbckoaaGreatDoor.TpK
