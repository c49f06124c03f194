import Derived.Test.YthaekkmnglhinaaTpQ2
import Derived.Test.YthaekkmnglhinaaHeldG
namespace Go.Proofs.Ythaekkmnglhinaa.TpQ3
open Go Go.RowKit Go.Proofs Go.Proofs.Ythaekkmnglhinaa.Sep Go.Proofs.Ythaekkmnglhinaa.Reg Go.Proofs.Ythaekkmnglhinaa.Frame Go.Proofs.Ythaekkmnglhinaa.Held Go.Proofs.Ythaekkmnglhinaa.HeldG Go.Proofs.Ythaekkmnglhinaa.Slc Go.Proofs.Ythaekkmnglhinaa.TpP Go.Proofs.Ythaekkmnglhinaa.TpA Go.Proofs.Ythaekkmnglhinaa.TpI Go.Proofs.Ythaekkmnglhinaa.TpK Go.Proofs.Ythaekkmnglhinaa.TpL Go.Proofs.Ythaekkmnglhinaa.TpM Go.Proofs.Ythaekkmnglhinaa.TpN Go.Proofs.Ythaekkmnglhinaa.TpO Go.Proofs.Ythaekkmnglhinaa.TpS Go.Proofs.Ythaekkmnglhinaa.TpT Go.Proofs.Ythaekkmnglhinaa.TpU Go.Proofs.Ythaekkmnglhinaa.TpV Go.Proofs.Ythaekkmnglhinaa.TpG Go.Proofs.Ythaekkmnglhinaa.TpQ Go.Proofs.Ythaekkmnglhinaa.TpQ2

/-- What is known of the pairs behind i acts. -/
structure Inv (i : Nat) (w : List Pr) : Prop where
  le : w.length ≤ i
  nd : w.Nodup
  mem : ∀ x ∈ w, x.1.length ≤ 60
theorem Inv.nil : Inv 0 [] := ⟨Nat.le_refl _, List.nodup_nil, fun _ h => by cases h⟩
theorem Inv.sub {i : Nat} {w v : List Pr} (h : Inv i w) (hs : v.Sublist w) : Inv (i + 1) v :=
  ⟨by have := hs.length_le; have := h.le; omega, hs.nodup h.nd, fun x hx => h.mem x (hs.subset hx)⟩
theorem Inv.app {i : Nat} {w : List Pr} (h : Inv i w) {t : Tx} {k : Int} (hn : (t, k) ∉ w) (h60 : t.length ≤ 60) : Inv (i + 1) (w ++ [(t, k)]) := by
  refine ⟨by have := h.le; simp; omega, ?_, fun y hy => ?_⟩
  · rw [List.nodup_append]
    exact ⟨h.nd, by simp, fun a ha b hb e => hn (by simp at hb; rw [← hb, ← e]; exact ha)⟩
  · rcases List.mem_append.1 hy with hy | hy
    · exact h.mem y hy
    · obtain rfl : y = (t, k) := by simpa using hy
      exact h60
/-- The act's cells. -/
def CA (bb : Nat) (xt : Tx) (xk : Int) (w : World) : Prop := w.cell? ⟨bb, 1, none⟩ = some (.string ⟨xt.toArray⟩) ∧ w.cell? ⟨bb, 2, none⟩ = some (.int .i64 xk)
theorem one_slP {W w : World} {x : Pr} {R : Asn} {g : Nat} {T : TypeId} (h : St W w (star (pt g (.cells #[.string ⟨x.1.toArray⟩, .int .i64 x.2] T (0, 0))) R)) : Sl w 2 (.slice (some ⟨g, 0, none⟩) 1 1) 1 (psV [x]) := by
  have := St.mkRow (size := 2) (n := 1) (cap := 1) (xs := psV [x]) h (Nat.le_refl _) (by unfold maxLen; omega) rfl rfl
  exact this.rowSl
/-- What a pair's place tells. -/
theorem place {w : List Pr} (hn : w.Nodup) (t : Tx) (k : Int) : ∃ (q : Int) (b : Bool), atZ w t k = q ∧ decide ((t, k) ∈ w) = b ∧ decide (0 ≤ q) = b ∧ decide (q < 0) = !b ∧
    ((b = true ∧ (t, k) ∈ w ∧ ∃ n : Nat, n < w.length ∧ q = n ∧ w.take n ++ w.drop (n + 1) = dropP w t k) ∨ (b = false ∧ (t, k) ∉ w ∧ q = -1)) := by
  by_cases h : (t, k) ∈ w
  · obtain ⟨n, h1, h2, h3⟩ := atZ_mem hn h
    exact ⟨n, true, h2, by simpa using h, by simp, by simp, .inl ⟨rfl, h, n, h1, rfl, h3⟩⟩
  · exact ⟨-1, false, atZ_not h, by simpa using h, by decide, by decide, .inr ⟨rfl, h, rfl⟩⟩
theorem mem_foldD {k : Int} {x : Pr} : ∀ {ts : List Tx} {w : List Pr}, x ∈ foldD w k ts ↔ x ∈ w ∧ ¬ (x.2 = k ∧ x.1 ∈ ts)
  | [], w => by simp [foldD]
  | t :: ts, w => by
    have ih := mem_foldD (k := k) (x := x) (ts := ts) (w := dropP w t k)
    have e : foldD w k (t :: ts) = foldD (dropP w t k) k ts := rfl
    rw [e, ih, mem_dropP]
    constructor
    · rintro ⟨⟨h1, h2⟩, h3⟩
      refine ⟨h1, fun ⟨h4, h5⟩ => ?_⟩
      rcases List.mem_cons.1 h5 with h6 | h6
      · exact h2 (Prod.ext h6 h4)
      · exact h3 ⟨h4, h6⟩
    · rintro ⟨h1, h2⟩
      exact ⟨⟨h1, fun e => h2 ⟨by rw [e], by rw [e]; simp⟩⟩, fun ⟨h4, h5⟩ => h2 ⟨h4, List.mem_cons_of_mem _ h5⟩⟩
theorem foldD_sub (k : Int) : ∀ (ts : List Tx) (w : List Pr), (foldD w k ts).Sublist w
  | [], _ => List.Sublist.refl _
  | t :: ts, w => (foldD_sub k ts (dropP w t k)).trans List.filter_sublist
theorem foldD_next {w : List Pr} {k : Int} {ts : List Tx} {j : Nat} {y : Tx} (hy : ts[j]? = some y) : foldD w k (ts.take (j + 1)) = dropP (foldD w k (ts.take j)) y k := by
  unfold foldD
  rw [List.take_add_one, hy, List.foldl_append]; rfl
theorem foldD_mem {w : List Pr} (hn : w.Nodup) {k : Int} {j : Nat} {y : Tx} (hy : (byP w k)[j]? = some y) : (y, k) ∈ foldD w k ((byP w k).take j) := by
  rw [mem_foldD]
  refine ⟨mem_byP.1 (List.mem_of_getElem? hy), fun ⟨_, h⟩ => ?_⟩
  obtain ⟨j2, hj2⟩ := List.getElem?_of_mem h
  rw [List.getElem?_take] at hj2
  split at hj2
  · rename_i hlt
    have := (List.getElem?_inj (List.getElem?_eq_some_iff.1 hy).1 (byP_nodup hn k)).1 (hy.trans hj2.symm)
    omega
  · cases hj2
theorem foldD_end (w : List Pr) (k : Int) : foldD w k (byP w k) = dropAllP w k := dropAll_fold k _ w fun _ h => mem_byP.2 h
theorem same_of {f : FuncId} {args : Array Value} {w : World} {b c : Bool} (h : Calls Try.prog f args w (Makes w (.bool b))) (e : b = c) : Calls Try.prog f args w (Makes w (.bool c)) := e ▸ h
def tr17 : Tr := .plain 1 (.plain 3 (.held 4 (.plain 5 (.held 6 (.plain 7 (.two 0 (.two 2 (.one 8 (.one 9 (.plain 10 (.done)))) 8 (.one 2 (.one 9 (.plain 10 (.done))))) 8 (.one 0 (.one 2 (.one 9 (.plain 10 (.done)))))))))))
def tr33 : Tr := .plain 0 (.plain 1 (.held 2 (.plain 4 (.plain 5 (.held 6 (.one 3 (.one 7 (.one 8 (.plain 9 (.plain 10 (.plain 11 (.plain 12 (.held 13 (.plain 15 (.plain 16 (.held 17 (.one 14 (.one 18 (.one 19 (.plain 20 (.plain 21 (.plain 22 (.plain 23 (.plain 25 (.one 24 (.one 26 (.one 27 (.plain 28 (.plain 29 (.done))))))))))))))))))))))))))))))
set_option maxRecDepth 100000 in
set_option maxHeartbeats 8000000 in
theorem play_walk {W : World} (a0 : Option Addr) (len0 cap0 : Nat) (xs : List TpG.Act) (hlen : xs.length = len0) (hsl : Sl W 3 (.slice a0 len0 cap0) len0 (xs.flatMap ActC.E)) (_ : ∀ x ∈ xs, ActC.Ok x) :
    Calls Try.prog 4 #[.slice a0 len0 cap0] W (Law W emp) := by
  have HSL := Lib.hid hsl
  have HLEN := Lib.hid hlen
  have HG := Lib.hid (Great_any a0 len0 cap0 xs hlen W hsl)
  clear hsl hlen
  go_enter Try.func4, Try.ntmps4
  go_wp2_with fail
  refine HG.out.mono ?_
  rintro e w1 ⟨b, hq, hsm⟩
  have h1 := (St.start W).makes hq
  obtain ⟨rfl, -⟩ := hq
  clear HG
  cases b
  · obtain ⟨h150, h60⟩ := hsm rfl
    have H60 := Lib.hid h60
    have hl150 : len0 ≤ 150 := by rw [← HLEN.out]; exact h150
    have HN := Lib.hid (New_any h1)
    clear h60 hsm h150
    go_wp2_with fail
    refine HN.out.mono ?_
    rintro e w2 ⟨p, rfl, h2⟩
    clear HN h1
    rw [star_emp] at h2
    go_wp2_with fail
    go_loopw [4, 5] (fun wv iv wr => ∃ (i : Nat) (w : List Pr) (wa : Option Addr) (m wk : Nat), i ≤ len0 ∧ iv = .int .i64 i ∧ wv = .slice wa m wk ∧ w.length = m ∧ Inv i w ∧ St W wr (star (Row 39 2 (.slice wa m wk) m (psV w)) (IsR p w))) (fun _ iv _ => len0 - (intOf iv).toNat)
    case atStart => exact ⟨0, [], none, 0, 0, Nat.zero_le _, rfl, rfl, rfl, Inv.nil, h2.nilRow⟩
    case round =>
      obtain ⟨i, w, wa, m, wk, hi, rfl, rfl, hm, hinv, hS⟩ := hrel
      have HI := Lib.hid hinv
      have HM := Lib.hid hm
      have hwl : m ≤ i := by rw [← hm]; exact hinv.le
      obtain ⟨_, _, hwv, hmwk, hwk, _⟩ := hS.rowSl.2
      cases hwv
      have hwk2 : wk ≤ 9223372036854775807 := by simpa [maxLen] using hwk
      clear hinv h2 hm hwk
      by_cases hin : i < len0
      · obtain ⟨x, hx⟩ : ∃ x, xs[i]? = some x := ⟨_, List.getElem?_eq_getElem (by rw [HLEN.out]; exact hin)⟩
        obtain ⟨ab, ao, rfl, hel⟩ := act_at_all HSL.out hx
        obtain ⟨xd, xt, xk⟩ := x
        have he0 := hel _ _ hS 0 _ rfl
        have he1 := hel _ _ hS 1 _ rfl
        have he2 := hel _ _ hS 2 _ rfl
        simp only [Nat.add_zero] at he0
        have hA := hS.alloc (.cells #[.int .u8 xd, .string ⟨xt.toArray⟩, .int .i64 xk] 36)
        have hb0 := hA.cell 0 rfl
        have hb1 := hA.cell 1 rfl
        have hb2 := hA.cell 2 rfl
        have HXT := Lib.hid (H60.out _ (List.mem_of_getElem? hx))
        have hinI : (i : Int) < len0 := by omega
        obtain ⟨q, b, hq, hb, hqb, hqn, hpl⟩ := place HI.out.nd xt xk
        have HRH := Lib.hid (rHears_any wa m wk w HM.out (by omega) xt xk q hq _ (hA.right.rowSl))
        have hpl2 := hpl
        have HPL := Lib.hid hpl2
        have HB := Lib.hid hb
        clear hel hx hq hpl hpl2 hb
        go_wp2_with fail
        generalize wr.heap.size = bb at *
        refine HRH.out.mono ?_
        rintro e w3 hq
        have h3 := hA.makes hq
        obtain ⟨rfl, -⟩ := hq
        have HH := Lib.hid (Hears_at p w (by have := HM.out; omega) xt xk b HB.out (h3.eq (B := star (IsR p w) (star (pt bb (.cells #[.int .u8 xd, .string ⟨xt.toArray⟩, .int .i64 xk] 36 (0, 0))) (Row 39 2 (.slice wa m wk) m (psV w)))) (by ac_rfl)))
        have hb0 := h3.cell 0 rfl
        have hb1 := h3.cell 1 rfl
        have hb2 := h3.cell 2 rfl
        clear HRH hA he0 he1 he2 hS
        go_wp2_with fail
        refine HH.out.mono ?_
        rintro e w4 ⟨rfl, h4⟩
        have hb0 := h4.right.cell 0 rfl
        have hb1 := h4.right.cell 1 rfl
        have hb2 := h4.right.cell 2 rfl
        have hbb : (b != decide (0 ≤ q)) = false := by rw [hqb]; simp
        clear HH h3
        go_upto_block 2 with fail
        go_cut [4] from 40 to 108 (fun s wx => ∃ (w' : List Pr) (wa' : Option Addr) (m' wk' : Nat), s = .slice wa' m' wk' ∧ w'.length = m' ∧ Inv (i + 1) w' ∧ St W wx (star (Row 39 2 (.slice wa' m' wk') m' (psV w')) (star (IsR p w') (pt bb (.cells #[.int .u8 xd, .string ⟨xt.toArray⟩, .int .i64 xk] 36 (0, 0))))))
        case first =>
          have h5 := h4.eq (B := star (IsR p w) (star (Row 39 2 (.slice wa m wk) m (psV w)) (pt bb (.cells #[.int .u8 xd, .string ⟨xt.toArray⟩, .int .i64 xk] 36 (0, 0))))) (by ac_rfl)
          by_cases hd0 : xd = 0
          · subst hd0
            rcases HPL.out with ⟨rfl, hmem, n, hn, rfl, hdr⟩ | ⟨rfl, hmem, rfl⟩
            · have HA := Lib.hid (Add_at p w (by have := HM.out; omega) xt xk w 5 (if_pos hmem) (if_pos hmem) h5)
              have HI2 := Lib.hid (HI.out.sub (List.Sublist.refl _))
              clear hmem hdr hn
              go_wp2_with fail
              refine HA.out.mono ?_
              rintro e w6 ⟨rfl, h6⟩
              go_wp2_with fail
              go_meet
              exact ⟨w, wa, m, wk, rfl, HM.out, HI2.out, h6.eq (by ac_rfl)⟩
            · have HMEM := Lib.hid hmem
              clear hmem
              go_upto_region 17 with fail
              go_cut [4] from 46 to 55 (fun s wx => ∃ (a : Option Addr) (c : Nat), s = .slice a (m + 1) c ∧ St W wx (star (Row 39 2 (.slice a (m + 1) c) (m + 1) (psV (w ++ [(xt, xk)]))) (star (IsR p w) (pt bb (.cells #[.int .u8 0, .string ⟨xt.toArray⟩, .int .i64 xk] 36 (0, 0))))))
              case first =>
                  obtain ⟨i0, hi0, hz0, hz1, hz2⟩ := info_parts infoP
                  have U := Try.underlying34
                  have HE1 : Hid (0 + m + 1 = m + 1) := Lib.hid (by omega)
                  have HE2 : Hid ([] ++ psV w ++ psV [(xt, xk)] = psV (w ++ [(xt, xk)])) := Lib.hid (by rw [psV_append]; rfl)
                  have j0 := (h5.drew).eq (B := star (Row 39 2 (.slice wa m wk) m (psV w)) (star (pt bb (.cells #[.int .u8 0, .string ⟨xt.toArray⟩, .int .i64 xk] 36 (0, 0))) (IsR p w))) (by ac_rfl)
                  refine wp_region_held (CA bb xt xk) [] tr17 (by kernel_rfl) (by kernel_rfl) ⟨j0.right.cell 1 rfl, j0.right.cell 2 rfl⟩ ?_
                  generalize w4.drew = z0 at *
                  unfold tr17
                  clear h5 h4
                  refine tr_plain (.slice wa m wk) rfl ?_ (by simp only [nthOp, Act.put, List.setIfInBounds_toArray, List.set_cons_succ, List.set_cons_zero]; rfl) ?_
                  · exact fun _ => rfl
                  refine tr_plain (.pointer (some ⟨bb, 1, none⟩)) rfl ?_ (by simp only [nthOp, Act.put, List.setIfInBounds_toArray, List.set_cons_succ, List.set_cons_zero]; rfl) ?_
                  · intro w'; simp only [nthOp]; go_simp
                  refine tr_held (.string ⟨xt.toArray⟩) rfl ?_ (by simp only [nthOp, Act.put, List.setIfInBounds_toArray, List.set_cons_succ, List.set_cons_zero]; rfl) ?_
                  · (rintro w' ⟨hc1, hc2⟩; simp only [nthOp]; go_simp)
                  refine tr_plain (.pointer (some ⟨bb, 2, none⟩)) rfl ?_ (by simp only [nthOp, Act.put, List.setIfInBounds_toArray, List.set_cons_succ, List.set_cons_zero]; rfl) ?_
                  · intro w'; simp only [nthOp]; go_simp
                  refine tr_held (.int .i64 xk) rfl ?_ (by simp only [nthOp, Act.put, List.setIfInBounds_toArray, List.set_cons_succ, List.set_cons_zero]; rfl) ?_
                  · (rintro w' ⟨hc1, hc2⟩; simp only [nthOp]; go_simp)
                  refine tr_plain (.agg #[.string ⟨xt.toArray⟩, .int .i64 xk]) rfl ?_ (by simp only [nthOp, Act.put, List.setIfInBounds_toArray, List.set_cons_succ, List.set_cons_zero]; rfl) ?_
                  · intro w'; simp only [nthOp]; go_simp
                  refine tr_two ?_ ?_
                  · have k1 := j0.alloc (.cells #[] 39)
                    have k1 := St.mkRow (size := 2) (n := 0) (cap := 0) (xs := []) k1 (Nat.le_refl _) (Nat.zero_le _) rfl rfl
                    have k3 := (k1.eq (B := star (pt bb (.cells #[.int .u8 0, .string ⟨xt.toArray⟩, .int .i64 xk] 36 (0, 0))) (star (Row 39 2 (.slice (some ⟨z0.heap.size, 0, none⟩) 0 0) 0 []) (star (Row 39 2 (.slice wa m wk) m (psV w)) (IsR p w)))) (by ac_rfl))
                    have c2 := (⟨k3.cell 1 rfl, k3.cell 2 rfl⟩ : CA bb xt xk _)
                    simp only [nthOp]
                    go_wp2_with fail
                    simp only [Reg.Next]
                    first | refine ⟨fun _ => c2, ?_⟩ | refine ⟨c2, ?_⟩ | skip
                    refine tr_two ?_ ?_
                    · have k4 := k1.eq (B := star (Row 39 2 (.slice (some ⟨z0.heap.size, 0, none⟩) 0 0) 0 []) (star (Row 39 2 (.slice wa m wk) m (psV w)) (star (pt bb (.cells #[.int .u8 0, .string ⟨xt.toArray⟩, .int .i64 xk] 36 (0, 0))) (IsR p w)))) (by ac_rfl)
                      have k5 := (k4.eq (B := star (Row 39 2 (.slice wa m wk) m (psV w)) (star (Row 39 2 (.slice (some ⟨z0.heap.size, 0, none⟩) 0 0) 0 []) (star (pt bb (.cells #[.int .u8 0, .string ⟨xt.toArray⟩, .int .i64 xk] 36 (0, 0))) (IsR p w)))) (by ac_rfl)).rowSl
                      simp only [nthOp]
                      go_wp2_with (at_builtin; refine wpList_append_Sl rfl (.tmp 46) (.tmp 47) 34 rfl 39 i0 zP 2 24 U hi0 hz0 hz1 hz2 rfl _ 0 [] rfl k4 _ m (psV w) rfl k5 (psV_one _) (by unfold maxLen; omega) (by omega) ?_; intro v6 y6 k6 _)
                      have k8 := (k6.eq (B := star (pt bb (.cells #[.int .u8 0, .string ⟨xt.toArray⟩, .int .i64 xk] 36 (0, 0))) (star (Row 39 2 v6 (0 + m) ([] ++ psV w)) (star (Row 39 2 (.slice wa m wk) m (psV w)) (IsR p w)))) (by ac_rfl))
                      have c7 := (⟨k8.cell 1 rfl, k8.cell 2 rfl⟩ : CA bb xt xk _)
                      simp only [Reg.Next]
                      first | refine ⟨fun _ => c7, ?_⟩ | refine ⟨c7, ?_⟩ | skip
                      refine tr_one ?_
                      have k9 := k6.alloc (.cells #[.string ⟨xt.toArray⟩, .int .i64 xk] 39)
                      have k11 := (k9.eq (B := star (pt bb (.cells #[.int .u8 0, .string ⟨xt.toArray⟩, .int .i64 xk] 36 (0, 0))) (star (pt y6.heap.size (.cells #[.string ⟨xt.toArray⟩, .int .i64 xk] 39 (0, 0))) (star (Row 39 2 v6 (0 + m) ([] ++ psV w)) (star (Row 39 2 (.slice wa m wk) m (psV w)) (IsR p w))))) (by ac_rfl))
                      have c10 := (⟨k11.cell 1 rfl, k11.cell 2 rfl⟩ : CA bb xt xk _)
                      simp only [nthOp]
                      go_wp2_with fail
                      simp only [Reg.Next]
                      first | refine ⟨fun _ => c10, ?_⟩ | refine ⟨c10, ?_⟩ | skip
                      refine tr_one ?_
                      have k12 := k9.eq (B := star (Row 39 2 v6 (0 + m) ([] ++ psV w)) (star (pt y6.heap.size (.cells #[.string ⟨xt.toArray⟩, .int .i64 xk] 39 (0, 0))) (star (Row 39 2 (.slice wa m wk) m (psV w)) (star (pt bb (.cells #[.int .u8 0, .string ⟨xt.toArray⟩, .int .i64 xk] 36 (0, 0))) (IsR p w))))) (by ac_rfl)
                      have k13 := one_slP (x := (xt, xk)) (k12.eq (B := star (pt y6.heap.size (.cells #[.string ⟨xt.toArray⟩, .int .i64 xk] 39 (0, 0))) (star (Row 39 2 v6 (0 + m) ([] ++ psV w)) (star (Row 39 2 (.slice wa m wk) m (psV w)) (star (pt bb (.cells #[.int .u8 0, .string ⟨xt.toArray⟩, .int .i64 xk] 36 (0, 0))) (IsR p w))))) (by ac_rfl))
                      simp only [nthOp]
                      go_wp2_with (at_builtin; refine wpList_append_Sl rfl (.tmp 48) (.tmp 54) 34 rfl 39 i0 zP 2 24 U hi0 hz0 hz1 hz2 rfl _ (0 + m) ([] ++ psV w) rfl k12 _ 1 (psV [(xt, xk)]) rfl k13 (psV_one _) (by unfold maxLen; omega) (by omega) ?_; intro v14 y14 k14 _)
                      have k16 := (k14.eq (B := star (pt bb (.cells #[.int .u8 0, .string ⟨xt.toArray⟩, .int .i64 xk] 36 (0, 0))) (star (Row 39 2 v14 (0 + m + 1) ([] ++ psV w ++ psV [(xt, xk)])) (star (pt y6.heap.size (.cells #[.string ⟨xt.toArray⟩, .int .i64 xk] 39 (0, 0))) (star (Row 39 2 (.slice wa m wk) m (psV w)) (IsR p w))))) (by ac_rfl))
                      have c15 := (⟨k16.cell 1 rfl, k16.cell 2 rfl⟩ : CA bb xt xk _)
                      simp only [Reg.Next]
                      first | refine ⟨fun _ => c15, ?_⟩ | refine ⟨c15, ?_⟩ | skip
                      refine tr_plain v14 rfl ?_ (by simp only [nthOp, Act.put, List.setIfInBounds_toArray, List.set_cons_succ, List.set_cons_zero]; rfl) ?_
                      · exact fun _ => rfl
                      refine tr_done ?_
                      obtain ⟨_, a9, c9, rfl, _⟩ := id k14.rowSl
                      rw [HE1.out, HE2.out] at k14
                      go_wp2_with fail
                      go_meet
                      exact ⟨a9, c9, by rw [HE1.out], (k14.eq (B := star (star (pt y6.heap.size (.cells #[.string ⟨xt.toArray⟩, .int .i64 xk] 39 (0, 0))) ((Row 39 2 (.slice wa m wk) m (psV w)))) (star (Row 39 2 (.slice a9 (m + 1) c9) (m + 1) (psV (w ++ [(xt, xk)]))) (star (IsR p w) (pt bb (.cells #[.int .u8 0, .string ⟨xt.toArray⟩, .int .i64 xk] 36 (0, 0)))))) (by ac_rfl)).right⟩
                    · have k17 := k1.alloc (.cells #[.string ⟨xt.toArray⟩, .int .i64 xk] 39)
                      simp only [World.size_alloc] at k17
                      have k19 := (k17.eq (B := star (pt bb (.cells #[.int .u8 0, .string ⟨xt.toArray⟩, .int .i64 xk] 36 (0, 0))) (star (pt (z0.heap.size + 1) (.cells #[.string ⟨xt.toArray⟩, .int .i64 xk] 39 (0, 0))) (star (Row 39 2 (.slice (some ⟨z0.heap.size, 0, none⟩) 0 0) 0 []) (star (Row 39 2 (.slice wa m wk) m (psV w)) (IsR p w))))) (by ac_rfl))
                      have c18 := (⟨k19.cell 1 rfl, k19.cell 2 rfl⟩ : CA bb xt xk _)
                      simp only [nthOp]
                      go_wp2_with fail
                      simp only [Reg.Next]
                      first | refine ⟨fun _ => c18, ?_⟩ | refine ⟨c18, ?_⟩ | skip
                      refine tr_one ?_
                      have k20 := k17.eq (B := star (Row 39 2 (.slice (some ⟨z0.heap.size, 0, none⟩) 0 0) 0 []) (star (pt (z0.heap.size + 1) (.cells #[.string ⟨xt.toArray⟩, .int .i64 xk] 39 (0, 0))) (star (Row 39 2 (.slice wa m wk) m (psV w)) (star (pt bb (.cells #[.int .u8 0, .string ⟨xt.toArray⟩, .int .i64 xk] 36 (0, 0))) (IsR p w))))) (by ac_rfl)
                      have k21 := (k20.eq (B := star (Row 39 2 (.slice wa m wk) m (psV w)) (star (Row 39 2 (.slice (some ⟨z0.heap.size, 0, none⟩) 0 0) 0 []) (star (pt (z0.heap.size + 1) (.cells #[.string ⟨xt.toArray⟩, .int .i64 xk] 39 (0, 0))) (star (pt bb (.cells #[.int .u8 0, .string ⟨xt.toArray⟩, .int .i64 xk] 36 (0, 0))) (IsR p w))))) (by ac_rfl)).rowSl
                      simp only [nthOp]
                      go_wp2_with (at_builtin; refine wpList_append_Sl rfl (.tmp 46) (.tmp 47) 34 rfl 39 i0 zP 2 24 U hi0 hz0 hz1 hz2 rfl _ 0 [] rfl k20 _ m (psV w) rfl k21 (psV_one _) (by unfold maxLen; omega) (by omega) ?_; intro v22 y22 k22 _)
                      have k24 := (k22.eq (B := star (pt bb (.cells #[.int .u8 0, .string ⟨xt.toArray⟩, .int .i64 xk] 36 (0, 0))) (star (Row 39 2 v22 (0 + m) ([] ++ psV w)) (star (pt (z0.heap.size + 1) (.cells #[.string ⟨xt.toArray⟩, .int .i64 xk] 39 (0, 0))) (star (Row 39 2 (.slice wa m wk) m (psV w)) (IsR p w))))) (by ac_rfl))
                      have c23 := (⟨k24.cell 1 rfl, k24.cell 2 rfl⟩ : CA bb xt xk _)
                      simp only [Reg.Next]
                      first | refine ⟨fun _ => c23, ?_⟩ | refine ⟨c23, ?_⟩ | skip
                      refine tr_one ?_
                      have k25 := k22.eq (B := star (Row 39 2 v22 (0 + m) ([] ++ psV w)) (star (pt (z0.heap.size + 1) (.cells #[.string ⟨xt.toArray⟩, .int .i64 xk] 39 (0, 0))) (star (Row 39 2 (.slice wa m wk) m (psV w)) (star (pt bb (.cells #[.int .u8 0, .string ⟨xt.toArray⟩, .int .i64 xk] 36 (0, 0))) (IsR p w))))) (by ac_rfl)
                      have k26 := one_slP (x := (xt, xk)) (k25.eq (B := star (pt (z0.heap.size + 1) (.cells #[.string ⟨xt.toArray⟩, .int .i64 xk] 39 (0, 0))) (star (Row 39 2 v22 (0 + m) ([] ++ psV w)) (star (Row 39 2 (.slice wa m wk) m (psV w)) (star (pt bb (.cells #[.int .u8 0, .string ⟨xt.toArray⟩, .int .i64 xk] 36 (0, 0))) (IsR p w))))) (by ac_rfl))
                      simp only [nthOp]
                      go_wp2_with (at_builtin; refine wpList_append_Sl rfl (.tmp 48) (.tmp 54) 34 rfl 39 i0 zP 2 24 U hi0 hz0 hz1 hz2 rfl _ (0 + m) ([] ++ psV w) rfl k25 _ 1 (psV [(xt, xk)]) rfl k26 (psV_one _) (by unfold maxLen; omega) (by omega) ?_; intro v27 y27 k27 _)
                      have k29 := (k27.eq (B := star (pt bb (.cells #[.int .u8 0, .string ⟨xt.toArray⟩, .int .i64 xk] 36 (0, 0))) (star (Row 39 2 v27 (0 + m + 1) ([] ++ psV w ++ psV [(xt, xk)])) (star (pt (z0.heap.size + 1) (.cells #[.string ⟨xt.toArray⟩, .int .i64 xk] 39 (0, 0))) (star (Row 39 2 (.slice wa m wk) m (psV w)) (IsR p w))))) (by ac_rfl))
                      have c28 := (⟨k29.cell 1 rfl, k29.cell 2 rfl⟩ : CA bb xt xk _)
                      simp only [Reg.Next]
                      first | refine ⟨fun _ => c28, ?_⟩ | refine ⟨c28, ?_⟩ | skip
                      refine tr_plain v27 rfl ?_ (by simp only [nthOp, Act.put, List.setIfInBounds_toArray, List.set_cons_succ, List.set_cons_zero]; rfl) ?_
                      · exact fun _ => rfl
                      refine tr_done ?_
                      obtain ⟨_, a9, c9, rfl, _⟩ := id k27.rowSl
                      rw [HE1.out, HE2.out] at k27
                      go_wp2_with fail
                      go_meet
                      exact ⟨a9, c9, by rw [HE1.out], (k27.eq (B := star (star (pt (z0.heap.size + 1) (.cells #[.string ⟨xt.toArray⟩, .int .i64 xk] 39 (0, 0))) ((Row 39 2 (.slice wa m wk) m (psV w)))) (star (Row 39 2 (.slice a9 (m + 1) c9) (m + 1) (psV (w ++ [(xt, xk)]))) (star (IsR p w) (pt bb (.cells #[.int .u8 0, .string ⟨xt.toArray⟩, .int .i64 xk] 36 (0, 0)))))) (by ac_rfl)).right⟩
                  · have k30 := j0.alloc (.cells #[.string ⟨xt.toArray⟩, .int .i64 xk] 39)
                    have k32 := (k30.eq (B := star (pt bb (.cells #[.int .u8 0, .string ⟨xt.toArray⟩, .int .i64 xk] 36 (0, 0))) (star (pt z0.heap.size (.cells #[.string ⟨xt.toArray⟩, .int .i64 xk] 39 (0, 0))) (star (Row 39 2 (.slice wa m wk) m (psV w)) (IsR p w)))) (by ac_rfl))
                    have c31 := (⟨k32.cell 1 rfl, k32.cell 2 rfl⟩ : CA bb xt xk _)
                    simp only [nthOp]
                    go_wp2_with fail
                    simp only [Reg.Next]
                    first | refine ⟨fun _ => c31, ?_⟩ | refine ⟨c31, ?_⟩ | skip
                    refine tr_one ?_
                    have k33 := k30.alloc (.cells #[] 39)
                    simp only [World.size_alloc] at k33
                    have k33 := St.mkRow (size := 2) (n := 0) (cap := 0) (xs := []) k33 (Nat.le_refl _) (Nat.zero_le _) rfl rfl
                    have k35 := (k33.eq (B := star (pt bb (.cells #[.int .u8 0, .string ⟨xt.toArray⟩, .int .i64 xk] 36 (0, 0))) (star (Row 39 2 (.slice (some ⟨(z0.heap.size + 1), 0, none⟩) 0 0) 0 []) (star (pt z0.heap.size (.cells #[.string ⟨xt.toArray⟩, .int .i64 xk] 39 (0, 0))) (star (Row 39 2 (.slice wa m wk) m (psV w)) (IsR p w))))) (by ac_rfl))
                    have c34 := (⟨k35.cell 1 rfl, k35.cell 2 rfl⟩ : CA bb xt xk _)
                    simp only [nthOp]
                    go_wp2_with fail
                    simp only [Reg.Next]
                    first | refine ⟨fun _ => c34, ?_⟩ | refine ⟨c34, ?_⟩ | skip
                    refine tr_one ?_
                    have k36 := k33.eq (B := star (Row 39 2 (.slice (some ⟨(z0.heap.size + 1), 0, none⟩) 0 0) 0 []) (star (pt z0.heap.size (.cells #[.string ⟨xt.toArray⟩, .int .i64 xk] 39 (0, 0))) (star (Row 39 2 (.slice wa m wk) m (psV w)) (star (pt bb (.cells #[.int .u8 0, .string ⟨xt.toArray⟩, .int .i64 xk] 36 (0, 0))) (IsR p w))))) (by ac_rfl)
                    have k37 := (k36.eq (B := star (Row 39 2 (.slice wa m wk) m (psV w)) (star (Row 39 2 (.slice (some ⟨(z0.heap.size + 1), 0, none⟩) 0 0) 0 []) (star (pt z0.heap.size (.cells #[.string ⟨xt.toArray⟩, .int .i64 xk] 39 (0, 0))) (star (pt bb (.cells #[.int .u8 0, .string ⟨xt.toArray⟩, .int .i64 xk] 36 (0, 0))) (IsR p w))))) (by ac_rfl)).rowSl
                    simp only [nthOp]
                    go_wp2_with (at_builtin; refine wpList_append_Sl rfl (.tmp 46) (.tmp 47) 34 rfl 39 i0 zP 2 24 U hi0 hz0 hz1 hz2 rfl _ 0 [] rfl k36 _ m (psV w) rfl k37 (psV_one _) (by unfold maxLen; omega) (by omega) ?_; intro v38 y38 k38 _)
                    have k40 := (k38.eq (B := star (pt bb (.cells #[.int .u8 0, .string ⟨xt.toArray⟩, .int .i64 xk] 36 (0, 0))) (star (Row 39 2 v38 (0 + m) ([] ++ psV w)) (star (pt z0.heap.size (.cells #[.string ⟨xt.toArray⟩, .int .i64 xk] 39 (0, 0))) (star (Row 39 2 (.slice wa m wk) m (psV w)) (IsR p w))))) (by ac_rfl))
                    have c39 := (⟨k40.cell 1 rfl, k40.cell 2 rfl⟩ : CA bb xt xk _)
                    simp only [Reg.Next]
                    first | refine ⟨fun _ => c39, ?_⟩ | refine ⟨c39, ?_⟩ | skip
                    refine tr_one ?_
                    have k41 := k38.eq (B := star (Row 39 2 v38 (0 + m) ([] ++ psV w)) (star (pt z0.heap.size (.cells #[.string ⟨xt.toArray⟩, .int .i64 xk] 39 (0, 0))) (star (Row 39 2 (.slice wa m wk) m (psV w)) (star (pt bb (.cells #[.int .u8 0, .string ⟨xt.toArray⟩, .int .i64 xk] 36 (0, 0))) (IsR p w))))) (by ac_rfl)
                    have k42 := one_slP (x := (xt, xk)) (k41.eq (B := star (pt z0.heap.size (.cells #[.string ⟨xt.toArray⟩, .int .i64 xk] 39 (0, 0))) (star (Row 39 2 v38 (0 + m) ([] ++ psV w)) (star (Row 39 2 (.slice wa m wk) m (psV w)) (star (pt bb (.cells #[.int .u8 0, .string ⟨xt.toArray⟩, .int .i64 xk] 36 (0, 0))) (IsR p w))))) (by ac_rfl))
                    simp only [nthOp]
                    go_wp2_with (at_builtin; refine wpList_append_Sl rfl (.tmp 48) (.tmp 54) 34 rfl 39 i0 zP 2 24 U hi0 hz0 hz1 hz2 rfl _ (0 + m) ([] ++ psV w) rfl k41 _ 1 (psV [(xt, xk)]) rfl k42 (psV_one _) (by unfold maxLen; omega) (by omega) ?_; intro v43 y43 k43 _)
                    have k45 := (k43.eq (B := star (pt bb (.cells #[.int .u8 0, .string ⟨xt.toArray⟩, .int .i64 xk] 36 (0, 0))) (star (Row 39 2 v43 (0 + m + 1) ([] ++ psV w ++ psV [(xt, xk)])) (star (pt z0.heap.size (.cells #[.string ⟨xt.toArray⟩, .int .i64 xk] 39 (0, 0))) (star (Row 39 2 (.slice wa m wk) m (psV w)) (IsR p w))))) (by ac_rfl))
                    have c44 := (⟨k45.cell 1 rfl, k45.cell 2 rfl⟩ : CA bb xt xk _)
                    simp only [Reg.Next]
                    first | refine ⟨fun _ => c44, ?_⟩ | refine ⟨c44, ?_⟩ | skip
                    refine tr_plain v43 rfl ?_ (by simp only [nthOp, Act.put, List.setIfInBounds_toArray, List.set_cons_succ, List.set_cons_zero]; rfl) ?_
                    · exact fun _ => rfl
                    refine tr_done ?_
                    obtain ⟨_, a9, c9, rfl, _⟩ := id k43.rowSl
                    rw [HE1.out, HE2.out] at k43
                    go_wp2_with fail
                    go_meet
                    exact ⟨a9, c9, by rw [HE1.out], (k43.eq (B := star (star (pt z0.heap.size (.cells #[.string ⟨xt.toArray⟩, .int .i64 xk] 39 (0, 0))) ((Row 39 2 (.slice wa m wk) m (psV w)))) (star (Row 39 2 (.slice a9 (m + 1) c9) (m + 1) (psV (w ++ [(xt, xk)]))) (star (IsR p w) (pt bb (.cells #[.int .u8 0, .string ⟨xt.toArray⟩, .int .i64 xk] 36 (0, 0)))))) (by ac_rfl)).right⟩
              case rest =>
                obtain ⟨a9, c9, rfl, h6⟩ := hcut
                have HA := Lib.hid (Add_at p w (by have := HM.out; omega) xt xk (w ++ [(xt, xk)]) 0 (if_neg HMEM.out) (if_neg HMEM.out) (h6.eq (B := star (IsR p w) (star (pt bb (.cells #[.int .u8 0, .string ⟨xt.toArray⟩, .int .i64 xk] 36 (0, 0))) (Row 39 2 (.slice a9 (m + 1) c9) (m + 1) (psV (w ++ [(xt, xk)]))))) (by ac_rfl)))
                have HI2 := Lib.hid (HI.out.app HMEM.out HXT.out)
                have h6a := h6.eq (B := star (pt bb (.cells #[.int .u8 0, .string ⟨xt.toArray⟩, .int .i64 xk] 36 (0, 0))) (star (IsR p w) (Row 39 2 (.slice a9 (m + 1) c9) (m + 1) (psV (w ++ [(xt, xk)]))))) (by ac_rfl)
                have hb1 := h6a.cell 1 rfl
                have hb2 := h6a.cell 2 rfl
                clear h6a
                clear h5 h4
                go_wp2_with fail
                refine HA.out.mono ?_
                rintro e w6 ⟨rfl, h7⟩
                go_wp2_with fail
                go_meet
                exact ⟨_, a9, m + 1, c9, rfl, by simp [HM.out], HI2.out, h7.eq (by ac_rfl)⟩
          · have hd0b : (xd == 0) = false := by simpa using hd0
            by_cases hd1 : xd = 1
            · subst hd1
              have HD := Lib.hid (Drop_at p w (by have := HM.out; omega) xt xk (dropP w xt xk) b rfl HB.out h5)
              have HI2 := Lib.hid (HI.out.sub (List.filter_sublist (p := fun x => decide (x ≠ (xt, xk)))))
              clear h4
              go_wp2_with fail
              refine HD.out.mono ?_
              rintro e w6 ⟨rfl, h6⟩
              clear HD h5
              rcases HPL.out with ⟨rfl, hmem, n, hn, rfl, hdr⟩ | ⟨rfl, hmem, rfl⟩
              · have HDR := Lib.hid (rDrop_any _ w m HM.out (by omega) n (by have := HM.out; omega) (h6.eq (B := star (Row 39 2 (.slice wa m wk) m (psV w)) (star (IsR p (dropP w xt xk)) (pt bb (.cells #[.int .u8 1, .string ⟨xt.toArray⟩, .int .i64 xk] 36 (0, 0))))) (by ac_rfl)))
                rw [hdr] at HDR
                have HL2 : Hid ((dropP w xt xk).length = m - 1) := Lib.hid (by rw [← hdr]; have := HM.out; simp only [List.length_append, List.length_take, List.length_drop]; omega)
                clear hmem hdr hn
                go_wp2_with fail
                refine HDR.out.mono ?_
                rintro e w7 ⟨v7, rfl, h7⟩
                obtain ⟨_, a7, c7, rfl, _⟩ := id h7.rowSl
                go_wp2_with fail
                go_meet
                exact ⟨_, a7, m - 1, c7, rfl, HL2.out, HI2.out, (h7.swap).right⟩
              · have HNO := Lib.hid (dropP_not hmem)
                clear hmem
                go_wp2_with fail
                go_meet
                refine ⟨w, wa, m, wk, rfl, HM.out, by rw [← HNO.out]; exact HI2.out, ?_⟩
                rw [HNO.out] at h6
                exact h6.eq (by ac_rfl)
            · have hd1b : (xd == 1) = false := by simpa using hd1
              by_cases hd2 : xd = 2
              · subst hd2
                have HRB := Lib.hid (rBy_any wa m wk w HM.out (by omega) xk h5 h5.right.rowSl)
                have HI2 := Lib.hid (HI.out.sub (List.filter_sublist (p := fun x => decide (x.2 ≠ xk))))
                have hbyl := byP_le w xk
                clear h4
                go_wp2_with fail
                refine HRB.out.mono ?_
                rintro e w6 ⟨ya, yc, rfl, h6⟩
                have hb2 := (h6.eq (B := star (pt bb (.cells #[.int .u8 2, .string ⟨xt.toArray⟩, .int .i64 xk] 36 (0, 0))) (star (Row 9 1 (.slice ya (byP w xk).length yc) (byP w xk).length ((byP w xk).map kS)) (star (IsR p w) (Row 39 2 (.slice wa m wk) m (psV w))))) (by ac_rfl)).cell 2 rfl
                have HDA := Lib.hid (DropAll_any p w (by have := HM.out; omega) xk (h6.eq (B := star (IsR p w) (star (Row 9 1 (.slice ya (byP w xk).length yc) (byP w xk).length ((byP w xk).map kS)) (star (Row 39 2 (.slice wa m wk) m (psV w)) (pt bb (.cells #[.int .u8 2, .string ⟨xt.toArray⟩, .int .i64 xk] 36 (0, 0)))))) (by ac_rfl)))
                clear HRB h5
                go_wp2_with fail
                refine HDA.out.mono ?_
                rintro e w7 ⟨da, dc, rfl, h7⟩
                have HSS := Lib.hid (sameS_any (byP w xk) (byP w xk) _ da (byP w xk).length dc ya (byP w xk).length yc rfl rfl (by have := HM.out; omega) h7.rowSl h7.right.right.rowSl)
                rw [decide_eq_true rfl] at HSS
                clear HDA h6
                go_wp2_with fail
                refine HSS.out.mono ?_
                rintro e w8 hq
                have h8 := h7.makes hq
                obtain ⟨rfl, -⟩ := hq
                clear HSS h7
                have HBYM : Hid (∀ (j : Nat) (y : Tx), (byP w xk)[j]? = some y → (y, xk) ∈ foldD w xk ((byP w xk).take j)) := Lib.hid (fun j y h => foldD_mem HI.out.nd h)
                have HBYE : Hid (foldD w xk (byP w xk) = dropAllP w xk) := Lib.hid (foldD_end w xk)
                generalize byP w xk = BY at *
                obtain ⟨bn, hbn⟩ : ∃ n, BY.length = n := ⟨_, rfl⟩
                rw [hbn] at h8 hbyl ⊢
                have HBN := Lib.hid hbn
                have hbm : bn ≤ 150 := by have := HM.out; omega
                have h9 := h8.right.eq (B := star (Row 39 2 (.slice wa m wk) m (psV w)) (star (IsR p (dropAllP w xk)) (star (Row 9 1 (.slice ya bn yc) bn (BY.map kS)) (pt bb (.cells #[.int .u8 2, .string ⟨xt.toArray⟩, .int .i64 xk] 36 (0, 0)))))) (by ac_rfl)
                clear h8 hbn
                go_wp2_with fail
                go_loopw [4, 10] (fun wv jv wr => ∃ (j : Nat) (wa' : Option Addr) (m' wk' : Nat), j ≤ bn ∧ jv = .int .i64 j ∧ wv = .slice wa' m' wk' ∧ (foldD w xk (BY.take j)).length = m' ∧ St W wr (star (Row 39 2 (.slice wa' m' wk') m' (psV (foldD w xk (BY.take j)))) (star (IsR p (dropAllP w xk)) (star (Row 9 1 (.slice ya bn yc) bn (BY.map kS)) (pt bb (.cells #[.int .u8 2, .string ⟨xt.toArray⟩, .int .i64 xk] 36 (0, 0))))))) (fun _ jv _ => bn - (intOf jv).toNat)
                case atStart => exact ⟨0, wa, m, wk, Nat.zero_le _, rfl, rfl, HM.out, h9⟩
                case round =>
                  obtain ⟨j, wa', m', wk', hj, rfl, rfl, hm', hS⟩ := hrel
                  have HM' := Lib.hid hm'
                  have hml' : m' ≤ w.length := by rw [← hm']; exact (foldD_sub xk _ w).length_le
                  clear hm' h9
                  by_cases hjn : j < bn
                  · obtain ⟨y, hy⟩ : ∃ y, BY[j]? = some y := ⟨_, List.getElem?_eq_getElem (by rw [HBN.out]; exact hjn)⟩
                    obtain ⟨yb, yq, rfl, -⟩ := elS hS.right.right.rowSl hy
                    have c1 := elS_at hS.drew.right.right.rowSl hy
                    have c2 := (hS.drew.eq (B := star (pt bb (.cells #[.int .u8 2, .string ⟨xt.toArray⟩, .int .i64 xk] 36 (0, 0))) (star (Row 39 2 (.slice wa' m' wk') m' (psV (foldD w xk (BY.take j)))) (star (IsR p (dropAllP w xk)) (Row 9 1 (.slice (some ⟨yb, yq, none⟩) bn yc) bn (BY.map kS))))) (by ac_rfl)).cell 2 rfl
                    have hjnI : (j : Int) < bn := by omega
                    have hnd' : (foldD w xk (BY.take j)).Nodup := (foldD_sub xk _ w).nodup HI.out.nd
                    obtain ⟨n, hn1, hn2, hn3⟩ := atZ_mem hnd' (HBYM.out j y hy)
                    rw [HM'.out] at hn1
                    have HFN : Hid (foldD w xk (BY.take (j + 1)) = dropP (foldD w xk (BY.take j)) y xk) := Lib.hid (foldD_next hy)
                    have HRH := Lib.hid (rHears_any wa' m' wk' _ HM'.out (by have := HM.out; omega) y xk n hn2 wr.drew hS.drew.rowSl)
                    have HRD := fun w9 h => rDrop_any (W := W) (w := w9) (R := star (IsR p (dropAllP w xk)) (star (Row 9 1 (.slice (some ⟨yb, yq, none⟩) bn yc) bn (BY.map kS)) (pt bb (.cells #[.int .u8 2, .string ⟨xt.toArray⟩, .int .i64 xk] 36 (0, 0))))) (.slice wa' m' wk') (foldD w xk (BY.take j)) m' HM'.out (by have := HM.out; omega) n hn1 h
                    rw [hn3] at HRD
                    have HRD2 := Lib.hid HRD
                    have HL2 : Hid ((dropP (foldD w xk (BY.take j)) y xk).length = m' - 1) := Lib.hid (by rw [← hn3]; have := HM'.out; simp only [List.length_append, List.length_take, List.length_drop]; omega)
                    clear hy hnd' hn2 hn3 HRD
                    go_wp2_with fail
                    refine wp_region_canon [0, 1, 2, 3, 4, 5, 6, 7, 8, 9, 10] (by kernel_rfl) (by kernel_rfl) ?_
                    simp only [pickOps, nthOp]
                    go_wp2_with fail
                    refine HRH.out.mono ?_
                    rintro e w9 hq
                    have h10 := hS.drew.makes hq
                    obtain ⟨rfl, -⟩ := hq
                    have HRD3 := Lib.hid (HRD2.out _ h10)
                    clear HRH HRD2
                    go_wp2_with fail
                    refine HRD3.out.mono ?_
                    rintro e w11 ⟨v11, rfl, h11⟩
                    obtain ⟨_, a11, c11, rfl, _⟩ := id h11.rowSl
                    clear HRD3 h10 hS
                    go_wp2_with fail
                    simp only [Only]
                    go_wp2_with fail
                    exact ⟨⟨j + 1, a11, m' - 1, c11, hjn, by go_num, rfl, by rw [HFN.out]; exact HL2.out, by rw [HFN.out]; exact h11.swap.right⟩, by simp [intOf]; omega⟩
                  · obtain rfl : bn = j := by omega
                    rw [List.take_of_length_le (by rw [HBN.out]; exact Nat.le_refl _), HBYE.out] at hS HM'
                    go_wp2_with fail
                    go_meet
                    exact ⟨_, wa', m', wk', rfl, HM'.out, HI2.out, (hS.eq (B := star (Row 9 1 (.slice ya bn yc) bn (BY.map kS)) (star (Row 39 2 (.slice wa' m' wk') m' (psV (dropAllP w xk))) (star (IsR p (dropAllP w xk)) (pt bb (.cells #[.int .u8 2, .string ⟨xt.toArray⟩, .int .i64 xk] 36 (0, 0)))))) (by ac_rfl)).right⟩
              · have hd2b : (xd == 2) = false := by simpa using hd2
                have HI2 := Lib.hid (HI.out.sub (List.Sublist.refl _))
                go_wp2_with fail
                go_meet
                exact ⟨w, wa, m, wk, rfl, HM.out, HI2.out, h5.eq (by ac_rfl)⟩
        case rest =>
          obtain ⟨w, wa, m, wk, rfl, hm, hinv, h5⟩ := hcut
          have HM := Lib.hid hm
          have HI2 := Lib.hid hinv
          have hwl : w.length ≤ 150 := by have := hinv.le; omega
          have hml : m ≤ 150 := by rw [← hm]; exact hwl
          have HTL : Hid (∀ x ∈ w, x.1.length ≤ 1000000) := Lib.hid (fun x hx => by have := hinv.mem x hx; omega)
          have hol := ofP_le w xt
          have hbl := byP_le w xk
          have htl := topicsP_le w
          clear hm hinv h4 hb0 hb1 hb2
          go_upto_region 33 with fail
          have j0 := (h5.drew).eq (B := star (Row 39 2 (.slice wa m wk) m (psV w)) (star (pt bb (.cells #[.int .u8 xd, .string ⟨xt.toArray⟩, .int .i64 xk] 36 (0, 0))) (star (IsR p w) emp))) (by rw [star_emp]; ac_rfl)
          refine wp_region_heldG (CA bb xt xk) [] tr33 (by kernel_rfl) (by kernel_rfl) ⟨j0.right.cell 1 rfl, j0.right.cell 2 rfl⟩ ?_
          generalize wc.drew = z0 at *
          unfold tr33
          clear h5
          refine trG_plain (.pointer (some ⟨p, 0, none⟩)) rfl ?_ (by simp only [nthOp, Act.put, List.setIfInBounds_toArray, List.set_cons_succ, List.set_cons_zero]; rfl) ?_
          · exact fun _ => rfl
          refine trG_plain (.pointer (some ⟨bb, 1, none⟩)) rfl ?_ (by simp only [nthOp, Act.put, List.setIfInBounds_toArray, List.set_cons_succ, List.set_cons_zero]; rfl) ?_
          · intro w'; simp only [nthOp]; go_simp
          refine trG_held (.string ⟨xt.toArray⟩) rfl ?_ (by simp only [nthOp, Act.put, List.setIfInBounds_toArray, List.set_cons_succ, List.set_cons_zero]; rfl) ?_
          · (rintro w' ⟨hc1, hc2⟩; simp only [nthOp]; go_simp)
          refine trG_plain (.slice wa m wk) rfl ?_ (by simp only [nthOp, Act.put, List.setIfInBounds_toArray, List.set_cons_succ, List.set_cons_zero]; rfl) ?_
          · exact fun _ => rfl
          refine trG_plain (.pointer (some ⟨bb, 1, none⟩)) rfl ?_ (by simp only [nthOp, Act.put, List.setIfInBounds_toArray, List.set_cons_succ, List.set_cons_zero]; rfl) ?_
          · intro w'; simp only [nthOp]; go_simp
          refine trG_held (.string ⟨xt.toArray⟩) rfl ?_ (by simp only [nthOp, Act.put, List.setIfInBounds_toArray, List.set_cons_succ, List.set_cons_zero]; rfl) ?_
          · (rintro w' ⟨hc1, hc2⟩; simp only [nthOp]; go_simp)
          refine trG_one ?_
          have k2 := j0.eq (B := star (IsR p w) (star (Row 39 2 (.slice wa m wk) m (psV w)) (star (pt bb (.cells #[.int .u8 xd, .string ⟨xt.toArray⟩, .int .i64 xk] 36 (0, 0))) (emp)))) (by ac_rfl)
          have H1 := Lib.hid (of_any p w (by omega) xt 1000 (by decide) (by decide) (ofP w xt) (List.take_of_length_le (by omega)) 1000 rfl k2)
          simp only [nthOp]
          go_wp2_with fail
          refine H1.out.mono ?_
          rintro e y1 ⟨a1, c1, rfl, k1⟩
          have k4 := (k1.eq (B := star (pt bb (.cells #[.int .u8 xd, .string ⟨xt.toArray⟩, .int .i64 xk] 36 (0, 0))) (star (Row 3 1 (.slice a1 (ofP w xt).length c1) (ofP w xt).length ((ofP w xt).map kI)) (star (IsR p w) (star (Row 39 2 (.slice wa m wk) m (psV w)) (emp))))) (by ac_rfl))
          have c3 := (⟨k4.cell 1 rfl, k4.cell 2 rfl⟩ : CA bb xt xk _)
          clear H1
          go_wp2_with fail
          simp only [Reg.Next]
          first | refine ⟨fun _ => c3, ?_⟩ | refine ⟨c3, ?_⟩ | skip
          refine trG_one ?_
          have k6 := k1.eq (B := star (Row 39 2 (.slice wa m wk) m (psV w)) (star (Row 3 1 (.slice a1 (ofP w xt).length c1) (ofP w xt).length ((ofP w xt).map kI)) (star (IsR p w) (star (pt bb (.cells #[.int .u8 xd, .string ⟨xt.toArray⟩, .int .i64 xk] 36 (0, 0))) (emp))))) (by ac_rfl)
          have H5 := Lib.hid (rOf_any wa m wk w HM.out (by omega) xt k6 k6.rowSl)
          simp only [nthOp]
          go_wp2_with fail
          refine H5.out.mono ?_
          rintro e y5 ⟨a5, c5, rfl, k5⟩
          have k8 := (k5.eq (B := star (pt bb (.cells #[.int .u8 xd, .string ⟨xt.toArray⟩, .int .i64 xk] 36 (0, 0))) (star (Row 3 1 (.slice a5 (ofP w xt).length c5) (ofP w xt).length ((ofP w xt).map kI)) (star (Row 39 2 (.slice wa m wk) m (psV w)) (star (Row 3 1 (.slice a1 (ofP w xt).length c1) (ofP w xt).length ((ofP w xt).map kI)) (star (IsR p w) (emp)))))) (by ac_rfl))
          have c7 := (⟨k8.cell 1 rfl, k8.cell 2 rfl⟩ : CA bb xt xk _)
          clear H5
          go_wp2_with fail
          simp only [Reg.Next]
          first | refine ⟨fun _ => c7, ?_⟩ | refine ⟨c7, ?_⟩ | skip
          refine trG_one ?_
          have k10 := k5.eq (B := star (Row 3 1 (.slice a1 (ofP w xt).length c1) (ofP w xt).length ((ofP w xt).map kI)) (star (Row 3 1 (.slice a5 (ofP w xt).length c5) (ofP w xt).length ((ofP w xt).map kI)) (star (Row 39 2 (.slice wa m wk) m (psV w)) (star (IsR p w) (star (pt bb (.cells #[.int .u8 xd, .string ⟨xt.toArray⟩, .int .i64 xk] 36 (0, 0))) (emp)))))) (by ac_rfl)
          have H9 := Lib.hid (same_of (sameI_any (ofP w xt) (ofP w xt) _ a1 (ofP w xt).length c1 a5 (ofP w xt).length c5 rfl rfl (by omega) k10.rowSl k10.right.rowSl) rfl)
          simp only [nthOp]
          go_wp2_with fail
          refine H9.out.mono ?_
          rintro e y9 hq9
          have k9 := (k10.makes hq9).right.right
          obtain ⟨rfl, -⟩ := hq9
          have k12 := (k9.eq (B := star (pt bb (.cells #[.int .u8 xd, .string ⟨xt.toArray⟩, .int .i64 xk] 36 (0, 0))) (star (Row 39 2 (.slice wa m wk) m (psV w)) (star (IsR p w) (emp)))) (by ac_rfl))
          have c11 := (⟨k12.cell 1 rfl, k12.cell 2 rfl⟩ : CA bb xt xk _)
          clear H9
          go_wp2_with fail
          simp only [Reg.Next]
          first | refine ⟨fun _ => c11, ?_⟩ | refine ⟨c11, ?_⟩ | skip
          refine trG_plain (.bool false) rfl ?_ (by simp only [nthOp, Act.put, List.setIfInBounds_toArray, List.set_cons_succ, List.set_cons_zero]; rfl) ?_
          · intro w'; simp only [nthOp]; go_simp
          refine trG_plain (.bool false) rfl ?_ (by simp only [nthOp, Act.put, List.setIfInBounds_toArray, List.set_cons_succ, List.set_cons_zero]; rfl) ?_
          · exact fun _ => rfl
          refine trG_plain (.pointer (some ⟨p, 0, none⟩)) rfl ?_ (by simp only [nthOp, Act.put, List.setIfInBounds_toArray, List.set_cons_succ, List.set_cons_zero]; rfl) ?_
          · exact fun _ => rfl
          refine trG_plain (.pointer (some ⟨bb, 2, none⟩)) rfl ?_ (by simp only [nthOp, Act.put, List.setIfInBounds_toArray, List.set_cons_succ, List.set_cons_zero]; rfl) ?_
          · intro w'; simp only [nthOp]; go_simp
          refine trG_held (.int .i64 xk) rfl ?_ (by simp only [nthOp, Act.put, List.setIfInBounds_toArray, List.set_cons_succ, List.set_cons_zero]; rfl) ?_
          · (rintro w' ⟨hc1, hc2⟩; simp only [nthOp]; go_simp)
          refine trG_plain (.slice wa m wk) rfl ?_ (by simp only [nthOp, Act.put, List.setIfInBounds_toArray, List.set_cons_succ, List.set_cons_zero]; rfl) ?_
          · exact fun _ => rfl
          refine trG_plain (.pointer (some ⟨bb, 2, none⟩)) rfl ?_ (by simp only [nthOp, Act.put, List.setIfInBounds_toArray, List.set_cons_succ, List.set_cons_zero]; rfl) ?_
          · intro w'; simp only [nthOp]; go_simp
          refine trG_held (.int .i64 xk) rfl ?_ (by simp only [nthOp, Act.put, List.setIfInBounds_toArray, List.set_cons_succ, List.set_cons_zero]; rfl) ?_
          · (rintro w' ⟨hc1, hc2⟩; simp only [nthOp]; go_simp)
          refine trG_one ?_
          have k14 := k9.eq (B := star (IsR p w) (star (Row 39 2 (.slice wa m wk) m (psV w)) (star (pt bb (.cells #[.int .u8 xd, .string ⟨xt.toArray⟩, .int .i64 xk] 36 (0, 0))) (emp)))) (by ac_rfl)
          have H13 := Lib.hid (By_any p w (by omega) xk k14)
          simp only [nthOp]
          go_wp2_with fail
          refine H13.out.mono ?_
          rintro e y13 ⟨a13, c13, rfl, k13⟩
          have k16 := (k13.eq (B := star (pt bb (.cells #[.int .u8 xd, .string ⟨xt.toArray⟩, .int .i64 xk] 36 (0, 0))) (star (Row 9 1 (.slice a13 (byP w xk).length c13) (byP w xk).length ((byP w xk).map kS)) (star (IsR p w) (star (Row 39 2 (.slice wa m wk) m (psV w)) (emp))))) (by ac_rfl))
          have c15 := (⟨k16.cell 1 rfl, k16.cell 2 rfl⟩ : CA bb xt xk _)
          clear H13
          go_wp2_with fail
          simp only [Reg.Next]
          first | refine ⟨fun _ => c15, ?_⟩ | refine ⟨c15, ?_⟩ | skip
          refine trG_one ?_
          have k18 := k13.eq (B := star (Row 39 2 (.slice wa m wk) m (psV w)) (star (Row 9 1 (.slice a13 (byP w xk).length c13) (byP w xk).length ((byP w xk).map kS)) (star (IsR p w) (star (pt bb (.cells #[.int .u8 xd, .string ⟨xt.toArray⟩, .int .i64 xk] 36 (0, 0))) (emp))))) (by ac_rfl)
          have H17 := Lib.hid (rBy_any wa m wk w HM.out (by omega) xk k18 k18.rowSl)
          simp only [nthOp]
          go_wp2_with fail
          refine H17.out.mono ?_
          rintro e y17 ⟨a17, c17, rfl, k17⟩
          have k20 := (k17.eq (B := star (pt bb (.cells #[.int .u8 xd, .string ⟨xt.toArray⟩, .int .i64 xk] 36 (0, 0))) (star (Row 9 1 (.slice a17 (byP w xk).length c17) (byP w xk).length ((byP w xk).map kS)) (star (Row 39 2 (.slice wa m wk) m (psV w)) (star (Row 9 1 (.slice a13 (byP w xk).length c13) (byP w xk).length ((byP w xk).map kS)) (star (IsR p w) (emp)))))) (by ac_rfl))
          have c19 := (⟨k20.cell 1 rfl, k20.cell 2 rfl⟩ : CA bb xt xk _)
          clear H17
          go_wp2_with fail
          simp only [Reg.Next]
          first | refine ⟨fun _ => c19, ?_⟩ | refine ⟨c19, ?_⟩ | skip
          refine trG_one ?_
          have k22 := k17.eq (B := star (Row 9 1 (.slice a13 (byP w xk).length c13) (byP w xk).length ((byP w xk).map kS)) (star (Row 9 1 (.slice a17 (byP w xk).length c17) (byP w xk).length ((byP w xk).map kS)) (star (Row 39 2 (.slice wa m wk) m (psV w)) (star (IsR p w) (star (pt bb (.cells #[.int .u8 xd, .string ⟨xt.toArray⟩, .int .i64 xk] 36 (0, 0))) (emp)))))) (by ac_rfl)
          have H21 := Lib.hid (same_of (sameS_any (byP w xk) (byP w xk) _ a13 (byP w xk).length c13 a17 (byP w xk).length c17 rfl rfl (by omega) k22.rowSl k22.right.rowSl) rfl)
          simp only [nthOp]
          go_wp2_with fail
          refine H21.out.mono ?_
          rintro e y21 hq21
          have k21 := (k22.makes hq21).right.right
          obtain ⟨rfl, -⟩ := hq21
          have k24 := (k21.eq (B := star (pt bb (.cells #[.int .u8 xd, .string ⟨xt.toArray⟩, .int .i64 xk] 36 (0, 0))) (star (Row 39 2 (.slice wa m wk) m (psV w)) (star (IsR p w) (emp)))) (by ac_rfl))
          have c23 := (⟨k24.cell 1 rfl, k24.cell 2 rfl⟩ : CA bb xt xk _)
          clear H21
          go_wp2_with fail
          simp only [Reg.Next]
          first | refine ⟨fun _ => c23, ?_⟩ | refine ⟨c23, ?_⟩ | skip
          refine trG_plain (.bool false) rfl ?_ (by simp only [nthOp, Act.put, List.setIfInBounds_toArray, List.set_cons_succ, List.set_cons_zero]; rfl) ?_
          · intro w'; simp only [nthOp]; go_simp
          refine trG_plain (.bool false) rfl ?_ (by simp only [nthOp, Act.put, List.setIfInBounds_toArray, List.set_cons_succ, List.set_cons_zero]; rfl) ?_
          · intro w'; simp only [nthOp]; go_simp
          refine trG_plain (.bool false) rfl ?_ (by simp only [nthOp, Act.put, List.setIfInBounds_toArray, List.set_cons_succ, List.set_cons_zero]; rfl) ?_
          · exact fun _ => rfl
          refine trG_plain (.pointer (some ⟨p, 0, none⟩)) rfl ?_ (by simp only [nthOp, Act.put, List.setIfInBounds_toArray, List.set_cons_succ, List.set_cons_zero]; rfl) ?_
          · exact fun _ => rfl
          refine trG_plain (.slice wa m wk) rfl ?_ (by simp only [nthOp, Act.put, List.setIfInBounds_toArray, List.set_cons_succ, List.set_cons_zero]; rfl) ?_
          · exact fun _ => rfl
          refine trG_one ?_
          have k26 := k21.eq (B := star (IsR p w) (star (Row 39 2 (.slice wa m wk) m (psV w)) (star (pt bb (.cells #[.int .u8 xd, .string ⟨xt.toArray⟩, .int .i64 xk] 36 (0, 0))) (emp)))) (by ac_rfl)
          have H25 := Lib.hid (Topics_any p w (by omega) HTL.out k26)
          simp only [nthOp]
          go_wp2_with fail
          refine H25.out.mono ?_
          rintro e y25 ⟨a25, c25, rfl, k25⟩
          have k28 := (k25.eq (B := star (pt bb (.cells #[.int .u8 xd, .string ⟨xt.toArray⟩, .int .i64 xk] 36 (0, 0))) (star (Row 9 1 (.slice a25 (topicsP w).length c25) (topicsP w).length ((topicsP w).map kS)) (star (IsR p w) (star (Row 39 2 (.slice wa m wk) m (psV w)) (emp))))) (by ac_rfl))
          have c27 := (⟨k28.cell 1 rfl, k28.cell 2 rfl⟩ : CA bb xt xk _)
          clear H25
          go_wp2_with fail
          simp only [Reg.Next]
          first | refine ⟨fun _ => c27, ?_⟩ | refine ⟨c27, ?_⟩ | skip
          refine trG_one ?_
          have k30 := k25.eq (B := star (Row 39 2 (.slice wa m wk) m (psV w)) (star (Row 9 1 (.slice a25 (topicsP w).length c25) (topicsP w).length ((topicsP w).map kS)) (star (IsR p w) (star (pt bb (.cells #[.int .u8 xd, .string ⟨xt.toArray⟩, .int .i64 xk] 36 (0, 0))) (emp))))) (by ac_rfl)
          have H29 := Lib.hid (rTopics_any wa m wk w HM.out (by omega) k30 k30.rowSl)
          simp only [nthOp]
          go_wp2_with fail
          refine H29.out.mono ?_
          rintro e y29 ⟨a29, c29, rfl, k29⟩
          have k32 := (k29.eq (B := star (pt bb (.cells #[.int .u8 xd, .string ⟨xt.toArray⟩, .int .i64 xk] 36 (0, 0))) (star (Row 9 1 (.slice a29 (topicsP w).length c29) (topicsP w).length ((topicsP w).map kS)) (star (Row 39 2 (.slice wa m wk) m (psV w)) (star (Row 9 1 (.slice a25 (topicsP w).length c25) (topicsP w).length ((topicsP w).map kS)) (star (IsR p w) (emp)))))) (by ac_rfl))
          have c31 := (⟨k32.cell 1 rfl, k32.cell 2 rfl⟩ : CA bb xt xk _)
          clear H29
          go_wp2_with fail
          simp only [Reg.Next]
          first | refine ⟨fun _ => c31, ?_⟩ | refine ⟨c31, ?_⟩ | skip
          refine trG_one ?_
          have k34 := k29.eq (B := star (Row 9 1 (.slice a25 (topicsP w).length c25) (topicsP w).length ((topicsP w).map kS)) (star (Row 9 1 (.slice a29 (topicsP w).length c29) (topicsP w).length ((topicsP w).map kS)) (star (Row 39 2 (.slice wa m wk) m (psV w)) (star (IsR p w) (star (pt bb (.cells #[.int .u8 xd, .string ⟨xt.toArray⟩, .int .i64 xk] 36 (0, 0))) (emp)))))) (by ac_rfl)
          have H33 := Lib.hid (same_of (sameS_any (topicsP w) (topicsP w) _ a25 (topicsP w).length c25 a29 (topicsP w).length c29 rfl rfl (by omega) k34.rowSl k34.right.rowSl) rfl)
          simp only [nthOp]
          go_wp2_with fail
          refine H33.out.mono ?_
          rintro e y33 hq33
          have k33 := (k34.makes hq33).right.right
          obtain ⟨rfl, -⟩ := hq33
          have k36 := (k33.eq (B := star (pt bb (.cells #[.int .u8 xd, .string ⟨xt.toArray⟩, .int .i64 xk] 36 (0, 0))) (star (Row 39 2 (.slice wa m wk) m (psV w)) (star (IsR p w) (emp)))) (by ac_rfl))
          have c35 := (⟨k36.cell 1 rfl, k36.cell 2 rfl⟩ : CA bb xt xk _)
          clear H33
          go_wp2_with fail
          simp only [Reg.Next]
          first | refine ⟨fun _ => c35, ?_⟩ | refine ⟨c35, ?_⟩ | skip
          refine trG_plain (.bool false) rfl ?_ (by simp only [nthOp, Act.put, List.setIfInBounds_toArray, List.set_cons_succ, List.set_cons_zero]; rfl) ?_
          · intro w'; simp only [nthOp]; go_simp
          refine trG_plain (.bool false) rfl ?_ (by simp only [nthOp, Act.put, List.setIfInBounds_toArray, List.set_cons_succ, List.set_cons_zero]; rfl) ?_
          · intro w'; simp only [nthOp]; go_simp
          refine trG_done ?_
          have k37 := k33.eq (B := star (Row 39 2 (.slice wa m wk) m (psV w)) (star (IsR p w) (star (pt bb (.cells #[.int .u8 xd, .string ⟨xt.toArray⟩, .int .i64 xk] 36 (0, 0))) (emp)))) (by ac_rfl)
          go_wp2_with fail
          exact ⟨⟨i + 1, w, wa, m, wk, hin, by go_num, rfl, HM.out, HI2.out, (k37.eq (B := star (pt bb (.cells #[.int .u8 xd, .string ⟨xt.toArray⟩, .int .i64 xk] 36 (0, 0))) (star (Row 39 2 (.slice wa m wk) m (psV w)) (IsR p w))) (by rw [star_emp]; ac_rfl)).right⟩, by simp [intOf]; omega⟩
      · obtain rfl : i = len0 := by omega
        have HWK := Lib.hid (wakes_any wr)
        go_wp2_with fail
        refine HWK.out.mono ?_
        rintro e w9 hq
        have h9 := hS.makes hq
        obtain ⟨rfl, -⟩ := hq
        go_wp2
        go_ret
        exact ⟨rfl, h9.forget⟩
  · have HWK := Lib.hid (wakes_any w1)
    go_wp2_with fail
    refine HWK.out.mono ?_
    rintro e w9 hq
    have h9 := h1.makes hq
    obtain ⟨rfl, -⟩ := hq
    go_wp2
    go_ret
    exact ⟨rfl, h9.forget⟩
end Go.Proofs.Ythaekkmnglhinaa.TpQ3
