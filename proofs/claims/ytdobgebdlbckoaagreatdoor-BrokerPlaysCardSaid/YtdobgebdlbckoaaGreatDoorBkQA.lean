/-
  BkPp, TpR, BkQ, BkQ2, BkQ3, BkQ4, BkQ5, HeldG in one text.
-/
import Derived.Test.YtdobgebdlbckoaaGreatDoorBkLp
import Derived.Test.YtdobgebdlbckoaaGreatDoorBkU
import Derived.Test.YtdobgebdlbckoaaGreatDoorTpNd
import Derived.Test.YtdobgebdlbckoaaGreatDoorHeld
import Derived.Test.YtdobgebdlbckoaaGreatDoorSure
import Derived.Test.YtdobgebdlbckoaaGreatDoorSlc
import Derived.BigQuiet
import Derived.Deep.Cut
import Derived.Deep.CutRange
import Derived.Deep.CutBlock
import Derived.Test.YtdobgebdlbckoaaGreatDoorBkS
import Derived.Test.YtdobgebdlbckoaaGreatDoorWdE
import Derived.Test.YtdobgebdlbckoaaGreatDoorWdF
namespace Go.Proofs.YtdobgebdlbckoaaGreatDoor.BkPp
open Go Go.Proofs.YtdobgebdlbckoaaGreatDoor.WdP Go.Proofs.YtdobgebdlbckoaaGreatDoor.TpP Go.Proofs.YtdobgebdlbckoaaGreatDoor.Mp Go.Proofs.YtdobgebdlbckoaaGreatDoor.BkP Go.Proofs.YtdobgebdlbckoaaGreatDoor.BkLp Go.Proofs.YtdobgebdlbckoaaGreatDoor.BkU
/-- No member twice. -/
def KN (b : BS) : Prop := (b.1.map (·.1)).Nodup
theorem KN.nil : KN ([], []) := List.nodup_nil
theorem KN.join {b : BS} (h : KN b) (id : Int) : KN (joinB b id).2 := by
  unfold joinB
  split
  · exact h
  · split
    · exact h
    · exact putM_nodup h
theorem KN.leave {b : BS} (h : KN b) (id : Int) : KN (leaveB b id).2 := by
  unfold leaveB
  split
  · exact delM_nodup h
  · exact h
theorem KN.do_ {b : BS} (h : KN b) (id op : Int) (s : Tx) : KN (doB b id op s).2 := by
  unfold doB
  split
  · split
    · exact h
    · split
      · unfold subB; split <;> exact h
      · split
        · unfold unsubB; split <;> exact h
        · exact putM_nodup h
  · exact h
/-- Where a member stands. -/
def atM (l : Pub) (id : Int) : Int := if id ∈ l.map (·.1) then (l.findIdx (fun e => decide (e.1 = id)) : Nat) else -1
theorem atM_not {l : Pub} {id : Int} (h : id ∉ l.map (·.1)) : atM l id = -1 := if_neg h
theorem atM_some {l : Pub} {id : Int} {i n : Nat} (hx : l[i]? = some (id, n)) (ht : id ∉ (l.take i).map (·.1)) : atM l id = i := by
  unfold atM
  rw [if_pos (List.mem_map.2 ⟨_, List.mem_of_getElem? hx, rfl⟩)]
  obtain ⟨hi, hx⟩ := List.getElem?_eq_some_iff.1 hx
  have : l.findIdx (fun e => decide (e.1 = id)) = i := by
    rw [List.findIdx_eq hi]
    refine ⟨by simp [hx], fun j hj => ?_⟩
    simp only [decide_eq_false_iff_not]
    intro e
    exact ht (List.mem_map.2 ⟨l[j], List.mem_of_getElem? (i := j) (by rw [List.getElem?_take, if_pos hj, List.getElem?_eq_getElem (by omega)]), e⟩)
  rw [this]
theorem atM_mem {b : BS} (hn : KN b) {id : Int} (h : isM b id = true) : ∃ q n : Nat, q < b.1.length ∧ b.1[q]? = some (id, n) ∧ atM b.1 id = q ∧ getM id b.1 = some n := by
  obtain ⟨n, hg, hm⟩ := isM_mem h
  obtain ⟨q, hq⟩ := List.getElem?_of_mem hm
  have hl := (List.getElem?_eq_some_iff.1 hq).1
  refine ⟨q, n, hl, hq, atM_some hq ?_, hg⟩
  intro hc
  have e : b.1 = b.1.take q ++ b.1.drop q := (List.take_append_drop q b.1).symm
  have hd : b.1.drop q = (id, n) :: b.1.drop (q + 1) := by
    rw [List.drop_eq_getElem_cons hl, (List.getElem?_eq_some_iff.1 hq).2]
  unfold KN at hn
  rw [e, hd, List.map_append, List.map_cons] at hn
  exact (List.nodup_append.1 hn).2.2 id hc id (by simp) rfl
theorem atM_out {b : BS} {id : Int} (h : isM b id = false) : atM b.1 id = -1 := by
  refine atM_not ?_
  unfold isM at h
  exact getM_none.1 (by simpa using h)
theorem cut_del {b : BS} (hn : KN b) {id : Int} {q n : Nat} (hq : b.1[q]? = some (id, n)) : b.1.take q ++ b.1.drop (q + 1) = delM id b.1 := by
  rw [← eraseIdx_del hn hq, List.eraseIdx_eq_take_drop_succ]
theorem dropAll_step (l : List Pr) (id : Int) (i : Nat) (x : Pr) (hx : l[i]? = some x) : dropAllP (l.take (i + 1)) id = dropAllP (l.take i) id ++ (if x.2 = id then [] else [x]) := by
  unfold dropAllP
  rw [List.take_add_one, hx, List.filter_append]
  congr 1
  by_cases h : x.2 = id <;> simp [h]
/-- Rising, and the same numbers. -/
def Ris (o l : List Int) : Prop := o.Pairwise (· ≤ ·) ∧ o.Perm l
theorem Ris.nil : Ris [] [] := ⟨List.Pairwise.nil, List.Perm.nil⟩
theorem Ris.ins {o l : List Int} (h : Ris o l) {x : Int} {k : Nat} (h1 : ∀ y ∈ o.take k, y < x) (h2 : ∀ y, o[k]? = some y → x ≤ y) : Ris (o.take k ++ x :: o.drop k) (l ++ [x]) := by
  obtain ⟨hs, hp⟩ := h
  have hs2 := hs
  rw [← List.take_append_drop k o] at hs2
  obtain ⟨p1, p2, p3⟩ := List.pairwise_append.1 hs2
  have hd : ∀ y ∈ o.drop k, x ≤ y := by
    intro y hy
    cases e : o.drop k with
    | nil => rw [e] at hy; cases hy
    | cons z r =>
      have hz : o[k]? = some z := by
        have := congrArg (fun l => l[0]?) e
        simpa using this
      have hxz := h2 z hz
      rw [e] at hy p2
      rcases List.mem_cons.1 hy with rfl | hy
      · exact hxz
      · have := (List.pairwise_cons.1 p2).1 y hy; omega
  refine ⟨List.pairwise_append.2 ⟨p1, List.pairwise_cons.2 ⟨hd, p2⟩, fun a ha c hc => ?_⟩, ?_⟩
  · have ha2 := h1 a ha
    rcases List.mem_cons.1 hc with rfl | hc
    · omega
    · have := hd c hc; omega
  · have e1 : (o.take k ++ x :: o.drop k).Perm (x :: (o.take k ++ o.drop k)) := List.perm_middle
    rw [List.take_append_drop] at e1
    exact e1.trans ((List.Perm.cons x hp).trans (List.perm_append_singleton x l).symm)
theorem Ris.sort {o l : List Int} (h : Ris o l) : o = sortI l := by
  have tr : ∀ a b c : Int, decide (a ≤ b) = true → decide (b ≤ c) = true → decide (a ≤ c) = true := by simp; omega
  have tot : ∀ a b : Int, (decide (a ≤ b) || decide (b ≤ a)) = true := by simp; omega
  refine List.Perm.eq_of_pairwise (le := fun a b => decide (a ≤ b) = true) ?_ (h.1.imp (by simp)) (List.pairwise_mergeSort tr tot l) (h.2.trans (List.mergeSort_perm l _).symm)
  intro a b _ _ h1 h2; simp at h1 h2; omega
end Go.Proofs.YtdobgebdlbckoaaGreatDoor.BkPp
namespace Go.Proofs.YtdobgebdlbckoaaGreatDoor.TpR
open Go Go.RowKit Go.Proofs Go.Proofs.YtdobgebdlbckoaaGreatDoor.Sep Go.Proofs.YtdobgebdlbckoaaGreatDoor.Reg Go.Proofs.YtdobgebdlbckoaaGreatDoor.Frame Go.Proofs.YtdobgebdlbckoaaGreatDoor.Slc Go.Proofs.YtdobgebdlbckoaaGreatDoor.Sure Go.Proofs.YtdobgebdlbckoaaGreatDoor.TpP Go.Proofs.YtdobgebdlbckoaaGreatDoor.TpA Go.Proofs.YtdobgebdlbckoaaGreatDoor.TpB Go.Proofs.YtdobgebdlbckoaaGreatDoor.TpI Go.Proofs.YtdobgebdlbckoaaGreatDoor.TpL Go.Proofs.YtdobgebdlbckoaaGreatDoor.TpM

theorem litI {W w : World} {g n : Nat} {l : List Int} {R : Asn} (hn : l.length = n) (hm : n ≤ 1000000) (h : St W w (star (pt g (.cells (l.map kI).toArray 3 (0, 0))) R)) : Sl w 1 (.slice (some ⟨g, 0, none⟩) n n) n (l.map kI) :=
  (St.mkRow (size := 1) (n := n) (cap := n) (xs := l.map kI) h (Nat.le_refl _) (by unfold maxLen; omega) (by simp [hn]) (by
    show (l.map kI).take (n * 1) = l.map kI
    exact List.take_of_length_le (by simp [hn]))).rowSl
theorem litS {W w : World} {g n : Nat} {l : List Tx} {R : Asn} (hn : l.length = n) (hm : n ≤ 1000000) (h : St W w (star (pt g (.cells (l.map kS).toArray 9 (0, 0))) R)) : Sl w 1 (.slice (some ⟨g, 0, none⟩) n n) n (l.map kS) :=
  (St.mkRow (size := 1) (n := n) (cap := n) (xs := l.map kS) h (Nat.le_refl _) (by unfold maxLen; omega) (by simp [hn]) (by
    show (l.map kS).take (n * 1) = l.map kS
    exact List.take_of_length_le (by simp [hn]))).rowSl

/-! ### A list of pairs, as cells. -/
def pE (x : Pr) : List Value := [.string ⟨x.1.toArray⟩, .int .i64 x.2]
def psV (l : List Pr) : List Value := l.flatMap pE
theorem psV_length (l : List Pr) : (psV l).length = l.length * 2 := by
  induction l with
  | nil => rfl
  | cons x l ih => simp only [psV, List.flatMap_cons, List.length_append, List.length_cons] at ih ⊢; rw [ih]; simp [pE]; omega
theorem psV_append (l m : List Pr) : psV (l ++ m) = psV l ++ psV m := by simp [psV]
theorem psV_one (l : List Pr) : ∀ u ∈ psV l, u.oneCell' = true := by
  intro u hu
  obtain ⟨x, _, hx⟩ := List.mem_flatMap.1 hu
  simp only [pE, List.mem_cons, List.not_mem_nil, or_false] at hx
  rcases hx with rfl | rfl <;> rfl
theorem psV_take (l : List Pr) (i : Nat) : (psV l).take (i * 2) = psV (l.take i) := by
  by_cases hi : i ≤ l.length
  · have e : psV l = psV (l.take i) ++ psV (l.drop i) := by rw [← psV_append, List.take_append_drop]
    rw [e, List.take_append_of_le_length (by rw [psV_length]; simp [hi]), List.take_of_length_le (by rw [psV_length]; simp; omega)]
  · rw [List.take_of_length_le (by rw [psV_length]; omega), List.take_of_length_le (by omega)]
theorem psV_drop (l : List Pr) (i : Nat) : (psV l).drop (i * 2) = psV (l.drop i) := by
  by_cases hi : i ≤ l.length
  · have e : psV l = psV (l.take i) ++ psV (l.drop i) := by rw [← psV_append, List.take_append_drop]
    have hl : (psV (l.take i)).length = i * 2 := by rw [psV_length]; simp [hi]
    rw [e, ← hl, List.drop_left]
  · rw [List.drop_of_length_le (by rw [psV_length]; omega), List.drop_of_length_le (by omega)]; rfl
theorem elP {W : World} {a : Option Addr} {n c : Nat} {l : List Pr} (h : Sl W 2 (.slice a n c) n (psV l)) {i : Nat} {x : Pr} (hx : l[i]? = some x) :
    ∃ ab ao, a = some ⟨ab, ao, none⟩ ∧ ∀ w A, St W w A → w.cell? ⟨ab, ao + i * 2, none⟩ = some (.string ⟨x.1.toArray⟩) ∧ w.cell? ⟨ab, ao + i * 2 + 1, none⟩ = some (.int .i64 x.2) := by
  have hg := flatMap_get (E := pE) (size := 2) (fun _ => rfl) l i x hx
  have hlen : 0 < (psV l).length := by
    have := (List.getElem?_eq_some_iff.1 (show (psV l)[i * 2 + 0]? = some (.string ⟨x.1.toArray⟩) from hg 0 (by omega))).1
    omega
  obtain ⟨ab, ao, rfl, hc⟩ := sl_addr h hlen
  refine ⟨ab, ao, rfl, fun w A hS => ⟨?_, ?_⟩⟩
  · have h0 := hc (i * 2 + 0) _ (hg 0 (by omega))
    exact (hS.old (World.block_lt_of_cell? W _ h0)).trans h0
  · have h1 := hc (i * 2 + 1) _ (hg 1 (by omega))
    exact (hS.old (World.block_lt_of_cell? W _ h1)).trans h1
def zP : Value := .agg #[.string ByteArray.empty, .int .i64 0]
theorem infoP : (Tryz.prog.info? 83).map (fun i => (i.zero, i.size, i.bytes)) = some (some zP, 2, 24) := by kernel_rfl
theorem infoP2 : (Tryz.prog.info? 83).map (·.size) = some 2 := by kernel_rfl

/-- Where a pair stands. -/
def atZ (l : List Pr) (t : Tx) (k : Int) : Int := if (t, k) ∈ l then (l.findIdx (fun x => decide (x = (t, k))) : Nat) else -1
theorem atZ_not {l : List Pr} {t : Tx} {k : Int} (h : (t, k) ∉ l) : atZ l t k = -1 := if_neg h
theorem atZ_some {l : List Pr} {t : Tx} {k : Int} {i : Nat} (hx : l[i]? = some (t, k)) (ht : (t, k) ∉ l.take i) : atZ l t k = i := by
  unfold atZ
  rw [if_pos (List.mem_of_getElem? hx)]
  obtain ⟨hi, hx⟩ := List.getElem?_eq_some_iff.1 hx
  have : l.findIdx (fun x => decide (x = (t, k))) = i := by
    rw [List.findIdx_eq hi]
    refine ⟨by simpa using hx, fun j hj => ?_⟩
    simp only [decide_eq_false_iff_not]
    intro e
    exact ht (List.mem_of_getElem? (i := j) (by rw [List.getElem?_take, if_pos hj, List.getElem?_eq_getElem (by omega), e]))
  rw [this]
theorem atZ_mem {l : List Pr} (hn : l.Nodup) {t : Tx} {k : Int} (h : (t, k) ∈ l) : ∃ q : Nat, q < l.length ∧ atZ l t k = q ∧ l.take q ++ l.drop (q + 1) = dropP l t k := by
  obtain ⟨A, B, rfl⟩ := List.append_of_mem h
  have hA : (t, k) ∉ A := fun hx => (List.nodup_append.1 hn).2.2 _ hx _ (by simp) rfl
  have hB : (t, k) ∉ B := (List.nodup_cons.1 (List.nodup_append.1 hn).2.1).1
  refine ⟨A.length, by simp, atZ_some (by simp) (by rw [List.take_left]; exact hA), ?_⟩
  rw [List.take_left]
  have e : (A ++ (t, k) :: B).drop (A.length + 1) = B := by simp
  rw [e]
  unfold dropP
  rw [List.filter_append, List.filter_cons_of_neg (by simp), List.filter_eq_self.2 (fun y hy => by simp; rintro rfl; exact hA hy), List.filter_eq_self.2 (fun y hy => by simp; rintro rfl; exact hB hy)]

set_option maxRecDepth 100000 in
set_option maxHeartbeats 4000000 in
theorem rHears_any (a : Option Addr) (n c : Nat) (l : List Pr) (hn : l.length = n) (hn1 : n ≤ 1000000) (t : Tx) (k : Int) (q : Int) (hq : atZ l t k = q) (w : World) (hsl : Sl w 2 (.slice a n c) n (psV l)) :
    Calls Tryz.prog 42 #[.slice a n c, .string ⟨t.toArray⟩, .int .i64 k] w (Makes w (.int .i64 q)) := by
  have h0 := St.start w
  have HSL := Lib.hid hsl
  have HL := Lib.hid hn
  have HQ := Lib.hid hq
  clear hsl hn hq
  go_enter Tryz.func42, Tryz.ntmps42
  go_wp2_with fail
  go_loopw [7] (fun iv wr => ∃ i : Nat, i ≤ n ∧ iv = .int .i64 i ∧ (t, k) ∉ l.take i ∧ St w wr emp) (fun iv _ => n - (intOf iv).toNat)
  case atStart => exact ⟨0, Nat.zero_le _, rfl, by simp, h0⟩
  case round =>
    obtain ⟨i, hi, rfl, htk, hS⟩ := hrel
    have HT := Lib.hid htk
    clear htk
    by_cases hin : i < n
    · obtain ⟨x, hx⟩ : ∃ x, l[i]? = some x := ⟨_, List.getElem?_eq_getElem (by rw [HL.out]; exact hin)⟩
      obtain ⟨ab, ao, rfl, hel⟩ := elP HSL.out hx
      obtain ⟨x1, x2⟩ := x
      obtain ⟨he0, he1⟩ := hel _ _ hS
      have hinI : (i : Int) < n := by omega
      have HX := Lib.hid hx
      clear hel hx
      have HNX : ∀ (_ : (x1, x2) ≠ (t, k)), (t, k) ∉ l.take (i + 1) := fun hne => by
        rw [List.take_add_one, HX.out]
        intro hm
        rcases List.mem_append.1 hm with h | h
        · exact HT.out h
        · exact hne (by simp at h; exact Prod.ext h.1.symm h.2.symm)
      have HNX := Lib.hid HNX
      cases ht : (x1 == t)
      · have hne : (x1, x2) ≠ (t, k) := fun e => by
          have := (Prod.mk.inj e).1
          simp [this] at ht
        have HN2 := Lib.hid (HNX.out hne)
        clear hne HNX
        go_wp2_with fail
        exact ⟨⟨i + 1, by omega, by go_num, HN2.out, hS⟩, by simp [intOf]; omega⟩
      · have hte : x1 = t := by simpa using ht
        cases hk : (x2 == k)
        · have hne : (x1, x2) ≠ (t, k) := fun e => by
            have := (Prod.mk.inj e).2
            simp [this] at hk
          have HN2 := Lib.hid (HNX.out hne)
          clear hne HNX hte
          go_wp2_with fail
          exact ⟨⟨i + 1, by omega, by go_num, HN2.out, hS⟩, by simp [intOf]; omega⟩
        · have hke : x2 = k := by simpa using hk
          have HV : Hid (atZ l t k = i) := Lib.hid (atZ_some (by rw [HX.out, hte, hke]) HT.out)
          clear hte hke HNX
          go_wp2
          go_ret
          exact ⟨by rw [← HQ.out, HV.out]; rfl, hS.below⟩
    · obtain rfl : i = n := by omega
      have HV : Hid (atZ l t k = -1) := Lib.hid (atZ_not (by
        have := HT.out
        rw [List.take_of_length_le (by rw [HL.out]; omega)] at this
        exact this))
      go_wp2
      go_ret
      exact ⟨by rw [← HQ.out, HV.out]; rfl, hS.below⟩
set_option maxRecDepth 100000 in
set_option maxHeartbeats 4000000 in
theorem rOf_any (a : Option Addr) (n c : Nat) (l : List Pr) (hn : l.length = n) (hn1 : n ≤ 1000000) (t : Tx) {W w : World} {R : Asn} (h : St W w R) (hsl : Sl w 2 (.slice a n c) n (psV l)) :
    Calls Tryz.prog 26 #[.slice a n c, .string ⟨t.toArray⟩] w fun e w' => ∃ a' c', e = .returned (.slice a' (ofP l t).length c') ∧ St W w' (star (Row 3 1 (.slice a' (ofP l t).length c') (ofP l t).length ((ofP l t).map kI)) R) := by
  have HSL := Lib.hid hsl
  have HL := Lib.hid hn
  clear hsl hn
  go_enter Tryz.func26, Tryz.ntmps26
  go_wp2_with fail
  go_loopw [5, 6] (fun ov iv wr => ∃ i : Nat, i ≤ n ∧ iv = .int .i64 i ∧ St w wr (Row 3 1 ov (ofP (l.take i) t).length ((ofP (l.take i) t).map kI))) (fun _ iv _ => n - (intOf iv).toNat)
  case atStart => exact ⟨0, Nat.zero_le _, rfl, ((St.start w).nilRow (e := 3) (size := 1)).eq (star_emp _)⟩
  case round =>
    obtain ⟨i, hi, rfl, hS⟩ := hrel
    rw [← star_emp (Row _ _ _ _ _)] at hS
    obtain ⟨_, va, vk, rfl, _⟩ := id hS.rowSl
    by_cases hin : i < n
    · obtain ⟨x, hx⟩ : ∃ x, l[i]? = some x := ⟨_, List.getElem?_eq_getElem (by rw [HL.out]; exact hin)⟩
      obtain ⟨ab, ao, rfl, hel⟩ := elP HSL.out hx
      obtain ⟨x1, x2⟩ := x
      obtain ⟨he0, he1⟩ := hel _ _ hS
      have hinI : (i : Int) < n := by omega
      have HTS : Hid (ofP (l.take (i + 1)) t = ofP (l.take i) t ++ ofP [(x1, x2)] t) := Lib.hid (by rw [List.take_add_one, hx, ofP_append]; rfl)
      have hml : (ofP (l.take i) t).length ≤ i := Nat.le_trans (ofP_le _ _) (by simp; omega)
      obtain ⟨L, hL⟩ : ∃ L, ofP (l.take i) t = L := ⟨_, rfl⟩
      rw [hL] at hS HTS hml
      obtain ⟨m, hm⟩ : ∃ m, L.length = m := ⟨_, rfl⟩
      rw [hm] at hS hml
      rw [hL, hm]
      have HM := Lib.hid hm
      clear hel hx hL hm
      cases ht : (x1 == t)
      · have hne : ofP [(x1, x2)] t = [] := by
          rw [ofP_one, if_neg (fun e => by simp [e] at ht)]
        rw [hne, List.append_nil] at HTS
        clear hne
        go_wp2_with fail
        exact ⟨⟨i + 1, hin, by go_num, by rw [HTS.out, HM.out]; exact hS.eq (star_emp _)⟩, by simp [intOf]; omega⟩
      · have hte : x1 = t := by simpa using ht
        have hne : ofP [(x1, x2)] t = [x2] := by
          rw [ofP_one, if_pos hte.symm]
        rw [hne] at HTS
        clear hne hte
        obtain ⟨i0, hi0, hz0, hz1, hz2⟩ := info_parts infoI
        have U := Tryz.underlying33
        have h2 := hS.alloc (.cells #[.int .i64 x2] 3)
        have hone := litI (l := [x2]) rfl (by simp) h2
        have h3 := h2.swap
        clear h2 hS
        go_wp2_with (at_builtin; refine wpList_append_Sl rfl (.tmp 20) (.tmp 26) 33 rfl 3 i0 (.int .i64 0) 1 8 U hi0 hz0 hz1 hz2 rfl _ m (L.map kI) rfl h3 _ 1 ([x2].map kI) rfl hone (oneI _) (by unfold maxLen; omega) (by omega) ?_; intro v9 w9 hS9 hv9)
        have e3 : L.map kI ++ [x2].map kI = (L ++ [x2]).map kI := by simp
        have e4 : (L ++ [x2]).length = m + 1 := by simp [HM.out]
        refine ⟨⟨i + 1, hin, by go_num, ?_⟩, by simp [intOf]; omega⟩
        rw [HTS.out, e4, ← e3]
        exact (hS9.swap.right).eq (star_emp _)
    · obtain rfl : n = i := by omega
      have e1 : l.take n = l := List.take_of_length_le (by rw [HL.out]; exact Nat.le_refl _)
      rw [e1] at hS ⊢
      rw [star_emp] at hS
      have HSF := Lib.hid hS
      clear hS e1
      go_wp2
      go_ret
      exact ⟨va, vk, rfl, St.comp h HSF.out⟩

set_option maxRecDepth 100000 in
set_option maxHeartbeats 4000000 in
theorem rBy_any (a : Option Addr) (n c : Nat) (l : List Pr) (hn : l.length = n) (hn1 : n ≤ 1000000) (k : Int) {W w : World} {R : Asn} (h : St W w R) (hsl : Sl w 2 (.slice a n c) n (psV l)) :
    Calls Tryz.prog 24 #[.slice a n c, .int .i64 k] w fun e w' => ∃ a' c', e = .returned (.slice a' (byP l k).length c') ∧ St W w' (star (Row 9 1 (.slice a' (byP l k).length c') (byP l k).length ((byP l k).map kS)) R) := by
  have HSL := Lib.hid hsl
  have HL := Lib.hid hn
  clear hsl hn
  go_enter Tryz.func24, Tryz.ntmps24
  go_wp2_with fail
  go_loopw [5, 6] (fun ov iv wr => ∃ i : Nat, i ≤ n ∧ iv = .int .i64 i ∧ St w wr (Row 9 1 ov (byP (l.take i) k).length ((byP (l.take i) k).map kS))) (fun _ iv _ => n - (intOf iv).toNat)
  case atStart => exact ⟨0, Nat.zero_le _, rfl, ((St.start w).nilRow (e := 9) (size := 1)).eq (star_emp _)⟩
  case round =>
    obtain ⟨i, hi, rfl, hS⟩ := hrel
    rw [← star_emp (Row _ _ _ _ _)] at hS
    obtain ⟨_, va, vk, rfl, _⟩ := id hS.rowSl
    by_cases hin : i < n
    · obtain ⟨x, hx⟩ : ∃ x, l[i]? = some x := ⟨_, List.getElem?_eq_getElem (by rw [HL.out]; exact hin)⟩
      obtain ⟨ab, ao, rfl, hel⟩ := elP HSL.out hx
      obtain ⟨x1, x2⟩ := x
      obtain ⟨he0, he1⟩ := hel _ _ hS
      have hinI : (i : Int) < n := by omega
      have HTS : Hid (byP (l.take (i + 1)) k = byP (l.take i) k ++ byP [(x1, x2)] k) := Lib.hid (by rw [List.take_add_one, hx, byP_append]; rfl)
      have hml : (byP (l.take i) k).length ≤ i := Nat.le_trans (byP_le _ _) (by simp; omega)
      obtain ⟨L, hL⟩ : ∃ L, byP (l.take i) k = L := ⟨_, rfl⟩
      rw [hL] at hS HTS hml
      obtain ⟨m, hm⟩ : ∃ m, L.length = m := ⟨_, rfl⟩
      rw [hm] at hS hml
      rw [hL, hm]
      have HM := Lib.hid hm
      clear hel hx hL hm
      cases ht : (x2 == k)
      · have hne : byP [(x1, x2)] k = [] := by
          rw [byP_one, if_neg (fun e => by simp [e] at ht)]
        rw [hne, List.append_nil] at HTS
        clear hne
        go_wp2_with fail
        exact ⟨⟨i + 1, hin, by go_num, by rw [HTS.out, HM.out]; exact hS.eq (star_emp _)⟩, by simp [intOf]; omega⟩
      · have hte : x2 = k := by simpa using ht
        have hne : byP [(x1, x2)] k = [x1] := by
          rw [byP_one, if_pos hte.symm]
        rw [hne] at HTS
        clear hne hte
        obtain ⟨i0, hi0, hz0, hz1, hz2⟩ := info_parts infoS
        have U := Tryz.underlying36
        have h2 := hS.alloc (.cells #[.string ⟨x1.toArray⟩] 9)
        have hone := litS (l := [x1]) rfl (by simp) h2
        have h3 := h2.swap
        clear h2 hS
        go_wp2_with (at_builtin; refine wpList_append_Sl rfl (.tmp 20) (.tmp 26) 36 rfl 9 i0 (.string ByteArray.empty) 1 16 U hi0 hz0 hz1 hz2 rfl _ m (L.map kS) rfl h3 _ 1 ([x1].map kS) rfl hone (oneS _) (by unfold maxLen; omega) (by omega) ?_; intro v9 w9 hS9 hv9)
        have e3 : L.map kS ++ [x1].map kS = (L ++ [x1]).map kS := by simp
        have e4 : (L ++ [x1]).length = m + 1 := by simp [HM.out]
        refine ⟨⟨i + 1, hin, by go_num, ?_⟩, by simp [intOf]; omega⟩
        rw [HTS.out, e4, ← e3]
        exact (hS9.swap.right).eq (star_emp _)
    · obtain rfl : n = i := by omega
      have e1 : l.take n = l := List.take_of_length_le (by rw [HL.out]; exact Nat.le_refl _)
      rw [e1] at hS ⊢
      rw [star_emp] at hS
      have HSF := Lib.hid hS
      clear hS e1
      go_wp2
      go_ret
      exact ⟨va, vk, rfl, St.comp h HSF.out⟩
set_option maxRecDepth 100000 in
set_option maxHeartbeats 8000000 in
theorem rDrop_any (v : Value) (l : List Pr) (n : Nat) (hn : l.length = n) (hn1 : n ≤ 1000000) (i : Nat) (hi : i < n) {W w : World} {R : Asn} (h : St W w (star (Row 83 2 v n (psV l)) R)) :
    Calls Tryz.prog 43 #[v, .int .i64 i] w fun e w' => ∃ v', e = .returned v' ∧ St W w' (star (Row 83 2 v' (n - 1) (psV (l.take i ++ l.drop (i + 1)))) (star (Row 83 2 v n (psV l)) R)) := by
  obtain ⟨i0, hi0, hz0, hz1, hz2⟩ := info_parts infoP
  obtain ⟨hxl, hv⟩ := h.row
  rcases hv with ⟨rfl, h0, _⟩ | ⟨g, cap, cur, rfl, hnc, hcm, hcs, htk, hg⟩
  · omega
  have hcm2 : cap ≤ 9223372036854775807 := by simpa [maxLen] using hcm
  have U := Tryz.underlying45
  have hs1 := run_head (P := Tryz.prog) 45 83 2 U infoP2 g n cap i (by omega) (i : Int) rfl
  have hs2 := run_cut_l' (P := Tryz.prog) 45 83 2 U infoP2 (some ⟨g, 0, none⟩) n cap ((i : Int) + 1) (i + 1) (by omega) (by omega)
  obtain ⟨ua, uc, hu⟩ : ∃ ua uc, cutV (some ⟨g, 0, none⟩) cap (i + 1) n 2 = .slice ua (n - (i + 1)) uc := ⟨_, _, rfl⟩
  rw [hu] at hs2
  have h1 := ((h.alloc (.cells #[] 83))).drew
  have h2 := St.mkRow (size := 2) (n := 0) (cap := 0) (xs := []) h1 (Nat.le_refl _) (Nat.zero_le _) rfl rfl
  have hti : cur.toList.take (i * 2) = psV (l.take i) := by
    have : cur.toList.take (i * 2) = (cur.toList.take (n * 2)).take (i * 2) := by rw [List.take_take]; congr 1; omega
    rw [this, htk, psV_take]
  have hA : Sl (w.alloc (.cells #[] 83)).drew 2 (.slice (some ⟨g, 0, none⟩) i cap) i (psV (l.take i)) := (St.mkRow (size := 2) (n := i) (cap := cap) (xs := psV (l.take i)) ((hg.alloc (.cells #[] 83)).drew.right) (by omega) hcm hcs hti).rowSl
  have hcl : (psV (l.drop (i + 1))).length = (n - (i + 1)) * 2 := by rw [psV_length]; simp; omega
  have hnews : ((psV l).drop ((i + 1) * 2)).take ((n - (i + 1)) * 2) = psV (l.drop (i + 1)) := by
    rw [psV_drop, List.take_of_length_le (by rw [hcl]; omega)]
  have HC : Hid (∀ w' A, St W w' (star A (star (Row 83 2 (.slice (some ⟨g, 0, none⟩) n cap) n (psV l)) R)) → Sl w' 2 (.slice ua (n - (i + 1)) uc) (n - (i + 1)) (psV (l.drop (i + 1)))) := Lib.hid (fun w' A hq => by
    have := hq.right.rowSl.cut (i + 1) n (by omega) (Nat.le_refl _)
    rw [hu, hnews] at this
    exact this)
  have HX : Hid (psV (l.take i) ++ psV (l.drop (i + 1)) = psV (l.take i ++ l.drop (i + 1))) := Lib.hid (by rw [psV_append])
  have HN : Hid (i + (n - (i + 1)) = n - 1) := Lib.hid (by omega)
  have HI : Hid ((i : Int) + 1 = IntKind.i64.wrap ((i : Int) + 1)) := Lib.hid (by rw [IntKind.wrap_i64]; omega)
  clear hu hti hcl hnews hxl htk hcs hg h
  go_enter Tryz.func43, Tryz.ntmps43
  go_wp2_with fail
  refine wp_region_sure [6, 7] [(false, [1, 2, 3, 5, 8, 0, 4, 9, 10])] (by kernel_rfl) (by kernel_rfl) ?_
  simp only [wpSure, wpSegs, pickOps, nthOp]
  refine ⟨trivial, .int .i64 i, fun w => rfl, trivial, .int .i64 ((i : Int) + 1), fun w => ?_, ?_⟩
  · rw [HI.out]; rfl
  go_wp2_with (at_builtin; first | (refine wpList_append_Sl rfl (.tmp 9) (.tmp 13) 45 rfl 83 i0 zP 2 24 U hi0 hz0 hz1 hz2 rfl _ i (psV (l.take i)) rfl hS9 _ (n - (i + 1)) (psV (l.drop (i + 1))) rfl hC9 (psV_one _) (by unfold maxLen; omega) (by omega) ?_; intro v8 w8 hS8 hv8; rw [HN.out, HX.out] at hS8; obtain ⟨_, a8, c8, rfl, _⟩ := id hS8.rowSl) | (refine wpList_append_Sl rfl (.tmp 5) (.tmp 8) 45 rfl 83 i0 zP 2 24 U hi0 hz0 hz1 hz2 rfl _ 0 [] rfl h2 _ i (psV (l.take i)) rfl hA (psV_one _) (by unfold maxLen; omega) (by omega) ?_; intro v9 w9 hS9 hv9; rw [Nat.zero_add, List.nil_append] at hS9; obtain ⟨_, a9, c9, rfl, _⟩ := id hS9.rowSl; have hC9 := HC.out _ _ hS9))
  simp only [Reg.Next]
  go_wp2
  go_ret
  exact ⟨_, rfl, hS8⟩

end Go.Proofs.YtdobgebdlbckoaaGreatDoor.TpR
namespace Go.Proofs.YtdobgebdlbckoaaGreatDoor.BkQ
open Go Go.RowKit Go.Proofs Go.Proofs.YtdobgebdlbckoaaGreatDoor.Sep Go.Proofs.YtdobgebdlbckoaaGreatDoor.Reg Go.Proofs.YtdobgebdlbckoaaGreatDoor.Frame Go.Proofs.YtdobgebdlbckoaaGreatDoor.Slc Go.Proofs.YtdobgebdlbckoaaGreatDoor.Sure Go.Proofs.YtdobgebdlbckoaaGreatDoor.Mp Go.Proofs.YtdobgebdlbckoaaGreatDoor.WdP Go.Proofs.YtdobgebdlbckoaaGreatDoor.TpP Go.Proofs.YtdobgebdlbckoaaGreatDoor.TpA Go.Proofs.YtdobgebdlbckoaaGreatDoor.TpR Go.Proofs.YtdobgebdlbckoaaGreatDoor.BkP Go.Proofs.YtdobgebdlbckoaaGreatDoor.BkA Go.Proofs.YtdobgebdlbckoaaGreatDoor.BkLp Go.Proofs.YtdobgebdlbckoaaGreatDoor.BkU Go.Proofs.YtdobgebdlbckoaaGreatDoor.BkPp

/-! ### The document's broker, as cells. -/
def mE (x : Int × Nat) : List Value := [.int .i64 x.1, .int .i64 (x.2 : Nat)]
def msV (l : Pub) : List Value := l.flatMap mE
theorem msV_length (l : Pub) : (msV l).length = l.length * 2 := by
  induction l with
  | nil => rfl
  | cons x l ih => simp only [msV, List.flatMap_cons, List.length_append, List.length_cons] at ih ⊢; rw [ih]; simp [mE]; omega
theorem msV_append (l m : Pub) : msV (l ++ m) = msV l ++ msV m := by simp [msV]
theorem msV_one (l : Pub) : ∀ u ∈ msV l, u.oneCell' = true := by
  intro u hu
  obtain ⟨x, _, hx⟩ := List.mem_flatMap.1 hu
  simp only [mE, List.mem_cons, List.not_mem_nil, or_false] at hx
  rcases hx with rfl | rfl <;> rfl
theorem msV_take (l : Pub) (i : Nat) : (msV l).take (i * 2) = msV (l.take i) := by
  by_cases hi : i ≤ l.length
  · have e : msV l = msV (l.take i) ++ msV (l.drop i) := by rw [← msV_append, List.take_append_drop]
    rw [e, List.take_append_of_le_length (by rw [msV_length]; simp [hi]), List.take_of_length_le (by rw [msV_length]; simp; omega)]
  · rw [List.take_of_length_le (by rw [msV_length]; omega), List.take_of_length_le (by omega)]
theorem msV_drop (l : Pub) (i : Nat) : (msV l).drop (i * 2) = msV (l.drop i) := by
  by_cases hi : i ≤ l.length
  · have e : msV l = msV (l.take i) ++ msV (l.drop i) := by rw [← msV_append, List.take_append_drop]
    have hl : (msV (l.take i)).length = i * 2 := by rw [msV_length]; simp [hi]
    rw [e, ← hl, List.drop_left]
  · rw [List.drop_of_length_le (by rw [msV_length]; omega), List.drop_of_length_le (by omega)]; rfl
theorem elM {W : World} {a : Option Addr} {n c : Nat} {l : Pub} (h : Sl W 2 (.slice a n c) n (msV l)) {i : Nat} {x : Int × Nat} (hx : l[i]? = some x) :
    ∃ ab ao, a = some ⟨ab, ao, none⟩ ∧ ∀ w A, St W w A → w.cell? ⟨ab, ao + i * 2, none⟩ = some (.int .i64 x.1) ∧ w.cell? ⟨ab, ao + i * 2 + 1, none⟩ = some (.int .i64 (x.2 : Nat)) := by
  have hg := flatMap_get (E := mE) (size := 2) (fun _ => rfl) l i x hx
  have hlen : 0 < (msV l).length := by
    have := (List.getElem?_eq_some_iff.1 (show (msV l)[i * 2 + 0]? = some (.int .i64 x.1) from hg 0 (by omega))).1
    omega
  obtain ⟨ab, ao, rfl, hc⟩ := sl_addr h hlen
  refine ⟨ab, ao, rfl, fun w A hS => ⟨?_, ?_⟩⟩
  · have h0 := hc (i * 2 + 0) _ (hg 0 (by omega))
    exact (hS.old (World.block_lt_of_cell? W _ h0)).trans h0
  · have h1 := hc (i * 2 + 1) _ (hg 1 (by omega))
    exact (hS.old (World.block_lt_of_cell? W _ h1)).trans h1
def zM : Value := .agg #[.int .i64 0, .int .i64 0]
theorem infoM : (Tryz.prog.info? 52).map (fun i => (i.zero, i.size, i.bytes)) = some (some zM, 2, 16) := by kernel_rfl
theorem infoM2 : (Tryz.prog.info? 52).map (·.size) = some 2 := by kernel_rfl
/-- The document's broker. -/
def IsW (p : Nat) (b : BS) : Asn := ex fun q : Value × Value => star (pt p (.cells #[q.1, q.2] 47 (0, 0))) (star (Row 52 2 q.1 b.1.length (msV b.1)) (Row 83 2 q.2 b.2.length (psV b.2)))
section
variable {W w : World} {p : Nat} {b : BS} {R : Asn}
theorem St.isW (h : St W w (star (IsW p b) R)) : ∃ la lc pa pc, St W w (star (pt p (.cells #[.slice la b.1.length lc, .slice pa b.2.length pc] 47 (0, 0))) (star (Row 52 2 (.slice la b.1.length lc) b.1.length (msV b.1)) (star (Row 83 2 (.slice pa b.2.length pc) b.2.length (psV b.2)) R))) := by
  obtain ⟨⟨v1, v2⟩, h⟩ := St.ex_iff.1 h
  have h := h.eq (B := star (pt p (.cells #[v1, v2] 47 (0, 0))) (star (Row 52 2 v1 b.1.length (msV b.1)) (star (Row 83 2 v2 b.2.length (psV b.2)) R))) (by simp only [star_assoc])
  obtain ⟨_, la, lc, rfl, _⟩ := _root_.id h.right.rowSl
  obtain ⟨_, pa, pc, rfl, _⟩ := _root_.id h.right.right.rowSl
  exact ⟨la, lc, pa, pc, h⟩
theorem St.toW {v1 v2 : Value} (h : St W w (star (pt p (.cells #[v1, v2] 47 (0, 0))) (star (Row 52 2 v1 b.1.length (msV b.1)) (star (Row 83 2 v2 b.2.length (psV b.2)) R)))) : St W w (star (IsW p b) R) :=
  St.ex_iff.2 ⟨(v1, v2), h.eq (by simp only [star_assoc])⟩
end
set_option maxRecDepth 100000 in
set_option maxHeartbeats 4000000 in
theorem rAt_any {W w : World} {R : Asn} (p : Nat) (b : BS) (h : St W w (star (IsW p b) R)) (hb : b.1.length ≤ 1000000) (k : Int) (q : Int) (hq : atM b.1 k = q) :
    Calls Tryz.prog 21 #[.pointer (some ⟨p, 0, none⟩), .int .i64 k] w (Makes w (.int .i64 q)) := by
  obtain ⟨la, lc, pa, pc, h1⟩ := St.isW h
  have h0 := St.start w
  obtain ⟨l, hl⟩ : ∃ l, b.1 = l := ⟨_, rfl⟩
  rw [hl] at h1 hb hq
  obtain ⟨n, hn⟩ : ∃ n, l.length = n := ⟨_, rfl⟩
  rw [hn] at h1 hb
  have HC0 : Hid (∀ wr, St w wr emp → wr.cell? ⟨p, 0, none⟩ = some (.slice la n lc)) := Lib.hid fun wr hS => (hS.old (World.block_lt_of_cell? w _ (h1.cell 0 (v := .slice la n lc) rfl))).trans (h1.cell 0 rfl)
  have HSL := Lib.hid h1.right.rowSl
  have HN := Lib.hid hn
  have HQ := Lib.hid hq
  clear h hl hn hq h1
  go_enter Tryz.func21, Tryz.ntmps21
  go_wp2_with fail
  go_loopw [5] (fun iv wr => ∃ i : Nat, i ≤ n ∧ iv = .int .i64 i ∧ k ∉ (l.take i).map (·.1) ∧ St w wr emp) (fun iv _ => n - (intOf iv).toNat)
  case atStart => exact ⟨0, Nat.zero_le _, rfl, by simp, h0⟩
  case round =>
    obtain ⟨i, hi, rfl, htk, hS⟩ := hrel
    have HT := Lib.hid htk
    have c0 := HC0.out _ hS
    clear htk
    by_cases hin : i < n
    · obtain ⟨x, hx⟩ : ∃ x, l[i]? = some x := ⟨_, List.getElem?_eq_getElem (by rw [HN.out]; exact hin)⟩
      obtain ⟨ab, ao, rfl, hel⟩ := elM HSL.out hx
      have e0 := (hel _ _ hS).1
      obtain ⟨x1, x2⟩ := x
      have hinI : (i : Int) < n := by omega
      have HX := Lib.hid hx
      clear hx hel
      cases ht : (x1 == k)
      · have hne : x1 ≠ k := by simpa using ht
        have HN2 : Hid (k ∉ (l.take (i + 1)).map (·.1)) := Lib.hid (by
          rw [List.take_add_one, HX.out, List.map_append]
          intro hm
          rcases List.mem_append.1 hm with h | h
          · exact HT.out h
          · simp at h; exact hne h.symm)
        clear hne
        go_wp2_with fail
        exact ⟨⟨i + 1, by omega, by go_num, HN2.out, hS⟩, by simp [intOf]; omega⟩
      · have hte : x1 = k := by simpa using ht
        have HV : Hid (atM l k = i) := Lib.hid (atM_some (by rw [HX.out, hte]) HT.out)
        clear hte
        go_wp2
        go_ret
        exact ⟨by rw [← HQ.out, HV.out]; rfl, hS.below⟩
    · obtain rfl : i = n := by omega
      have HV : Hid (atM l k = -1) := Lib.hid (atM_not (by
        have := HT.out
        rw [List.take_of_length_le (by rw [HN.out]; omega)] at this
        exact this))
      go_wp2
      go_ret
      exact ⟨by rw [← HQ.out, HV.out]; rfl, hS.below⟩
end Go.Proofs.YtdobgebdlbckoaaGreatDoor.BkQ
namespace Go.Proofs.YtdobgebdlbckoaaGreatDoor.BkQ2
open Go Go.RowKit Go.Proofs Go.Proofs.YtdobgebdlbckoaaGreatDoor.Sep Go.Proofs.YtdobgebdlbckoaaGreatDoor.Reg Go.Proofs.YtdobgebdlbckoaaGreatDoor.Frame Go.Proofs.YtdobgebdlbckoaaGreatDoor.Slc Go.Proofs.YtdobgebdlbckoaaGreatDoor.Sure Go.Proofs.YtdobgebdlbckoaaGreatDoor.Mp Go.Proofs.YtdobgebdlbckoaaGreatDoor.WdP Go.Proofs.YtdobgebdlbckoaaGreatDoor.TpP Go.Proofs.YtdobgebdlbckoaaGreatDoor.TpA Go.Proofs.YtdobgebdlbckoaaGreatDoor.TpR Go.Proofs.YtdobgebdlbckoaaGreatDoor.BkP Go.Proofs.YtdobgebdlbckoaaGreatDoor.BkA Go.Proofs.YtdobgebdlbckoaaGreatDoor.BkLp Go.Proofs.YtdobgebdlbckoaaGreatDoor.BkU Go.Proofs.YtdobgebdlbckoaaGreatDoor.BkPp Go.Proofs.YtdobgebdlbckoaaGreatDoor.BkQ

theorem litM {W w : World} {g n : Nat} {l : Pub} {R : Asn} (hn : l.length = n) (hm : n ≤ 1000000) (h : St W w (star (pt g (.cells (msV l).toArray 52 (0, 0))) R)) : Sl w 2 (.slice (some ⟨g, 0, none⟩) n n) n (msV l) :=
  (St.mkRow (size := 2) (n := n) (cap := n) (xs := msV l) h (Nat.le_refl _) (by unfold maxLen; omega) (by simp [msV_length, hn]) (by
    show (msV l).take (n * 2) = msV l
    exact List.take_of_length_le (by simp [msV_length, hn]))).rowSl
def WPst (W : World) (p : Nat) (r : Int × BS) (R : Asn) (e : Ending) (w' : World) : Prop := e = .returned (.int .i64 r.1) ∧ St W w' (star (IsW p r.2) R)
theorem WPst.mk {W w' : World} {p : Nat} {r : Int × BS} {R : Asn} {e : Ending} {n : Int} {b : BS} (h : r = (n, b)) (he : e = .returned (.int .i64 n)) (hS : St W w' (star (IsW p b) R)) : WPst W p r R e w' := by subst h; exact ⟨he, hS⟩
theorem St.toWn {W w : World} {p : Nat} {b : BS} {R : Asn} {v1 v2 : Value} {n1 n2 : Nat} (h1 : b.1.length = n1) (h2 : b.2.length = n2) (h : St W w (star (pt p (.cells #[v1, v2] 47 (0, 0))) (star (Row 52 2 v1 n1 (msV b.1)) (star (Row 83 2 v2 n2 (psV b.2)) R)))) : St W w (star (IsW p b) R) := by
  subst h1 h2; exact St.toW h
theorem atM_ge {b : BS} {k : Int} (h : isM b k = true) : ∃ q : Nat, atM b.1 k = q := by
  obtain ⟨n, -, hm⟩ := isM_mem h
  unfold atM
  rw [if_pos (List.mem_map.2 ⟨_, hm, rfl⟩)]
  exact ⟨_, rfl⟩
set_option maxRecDepth 100000 in
set_option maxHeartbeats 8000000 in
theorem rJoin_any {W w : World} {R : Asn} (p : Nat) (b : BS) (h : St W w (star (IsW p b) R)) (hb : b.1.length ≤ 1000000) (k : Int) :
    Calls Tryz.prog 18 #[.pointer (some ⟨p, 0, none⟩), .int .i64 k] w (WPst W p (joinB b k) R) := by
  obtain ⟨la, lc, pa, pc, h1⟩ := St.isW h
  have HAt := Lib.hid (rAt_any p b h hb k _ rfl)
  obtain ⟨r, hr⟩ : ∃ r, joinB b k = r := ⟨_, rfl⟩
  rw [hr]
  have HR := Lib.hid hr
  have HH := Lib.hid h
  clear h hr
  by_cases h0 : k < 0
  · have HE : Hid (r = (1, b)) := Lib.hid (by rw [← HR.out]; unfold joinB; rw [if_pos (.inl h0)])
    have hd : decide (k < 0) = true := decide_eq_true h0
    clear h0 HAt h1
    go_enter Tryz.func18, Tryz.ntmps18
    go_wp2
    go_ret
    exact WPst.mk HE.out rfl HH.out
  · have hd : decide (k < 0) = false := decide_eq_false h0
    by_cases hk : 4611686018427387904 < k
    · have HE : Hid (r = (1, b)) := Lib.hid (by rw [← HR.out]; unfold joinB; rw [if_pos (.inr hk)])
      have hd2 : decide (4611686018427387904 < k) = true := decide_eq_true hk
      clear h0 hk HAt h1
      go_enter Tryz.func18, Tryz.ntmps18
      go_wp2
      go_ret
      exact WPst.mk HE.out rfl HH.out
    · have hd2 : decide (4611686018427387904 < k) = false := decide_eq_false hk
      have HE0 : Hid (r = if isM b k = true then (5, b) else (0, (putM k 0 b.1, b.2))) := Lib.hid (by rw [← HR.out]; unfold joinB; rw [if_neg (fun h => h.elim h0 hk)])
      clear h0 hk
      cases hm : isM b k with
      | true =>
        obtain ⟨q, hq⟩ := atM_ge hm
        rw [hm] at HE0
        rw [hq] at HAt
        have HE : Hid (r = (5, b)) := Lib.hid (by rw [HE0.out]; rfl)
        have hd3 : decide ((0 : Int) ≤ q) = true := decide_eq_true (by omega)
        clear hm HE0 h1 hq
        go_enter Tryz.func18, Tryz.ntmps18
        go_wp2_with fail
        refine HAt.out.mono ?_
        rintro e w1 hq1
        have h2 := HH.out.makes hq1
        obtain ⟨rfl, -⟩ := hq1
        go_wp2
        go_ret
        exact WPst.mk HE.out rfl h2
      | false =>
        have hq := atM_out hm
        rw [hm] at HE0
        rw [hq] at HAt
        have hnk : k ∉ b.1.map (·.1) := by unfold isM at hm; exact getM_none.1 (by simpa using hm)
        have HE : Hid (r = (0, (b.1 ++ [(k, 0)], b.2))) := Lib.hid (by rw [HE0.out]; unfold putM; rw [if_neg hnk]; rfl)
        clear hm HE0 hq hnk
        obtain ⟨l, hl⟩ : ∃ l, b.1 = l := ⟨_, rfl⟩
        obtain ⟨n, hn⟩ : ∃ n, l.length = n := ⟨_, rfl⟩
        rw [hl, hn] at h1 hb
        rw [hl] at HE
        have HN := Lib.hid hn
        clear hl hn HH
        obtain ⟨i0, hi0, hz0, hz1, hz2⟩ := info_parts infoM
        have U := Tryz.underlying44
        go_enter Tryz.func18, Tryz.ntmps18
        go_wp2_with fail
        refine HAt.out.mono ?_
        rintro e w1 hq1
        have h1 := h1.makes hq1
        obtain ⟨rfl, -⟩ := hq1
        clear HAt
        have h2 := h1.alloc (.cells #[] 52)
        have h3 := St.mkRow (size := 2) (n := 0) (cap := 0) (xs := []) h2 (Nat.le_refl _) (Nat.zero_le _) rfl rfl
        have c0 := h3.right.cell 0 (v := .slice la n lc) rfl
        have hA := h3.right.right.rowSl
        clear h1 h2
        go_wp2_with (at_builtin; first
          | (refine wpList_append_Sl rfl (.tmp 21) (.tmp 24) 44 rfl 52 i0 zM 2 16 U hi0 hz0 hz1 hz2 rfl _ (0 + n) ([] ++ msV l) rfl h6 _ 1 (msV [(k, 0)]) rfl hone (msV_one _) (by unfold maxLen; omega) (by omega) ?_; intro v7 w7 h7 _; obtain ⟨_, a7, c7, rfl, _⟩ := id h7.rowSl; have h8 := h7.eq (B := star (pt p (.cells #[.slice la n lc, .slice pa b.2.length pc] 47 (0, 0))) (star (star (pt w5.heap.size (.cells #[.int .i64 k, .int .i64 0] 52 (0, 0))) (Row 52 2 (.slice la n lc) n (msV l))) (star (Row 52 2 (.slice a7 (0 + n + 1) c7) (0 + n + 1) ([] ++ msV l ++ msV [(k, 0)])) (star (Row 83 2 (.slice pa b.2.length pc) b.2.length (psV b.2)) R)))) (by ac_rfl); have f8 := h8.free 0; have d8 := h8.cell 0 (v := .slice la n lc) rfl; have hfin := Lib.hid (h8.setCell 0 (.slice a7 (0 + n + 1) c7)))
          | (refine wpList_append_Sl rfl (.tmp 16) (.tmp 20) 44 rfl 52 i0 zM 2 16 U hi0 hz0 hz1 hz2 rfl _ 0 [] rfl h3 _ n (msV l) rfl hA (msV_one _) (by unfold maxLen; omega) (by omega) ?_; intro v5 w5 h5 _; have h5a := h5.alloc (.cells #[.int .i64 k, .int .i64 0] 52); have hone := litM (l := [(k, 0)]) rfl (by simp) h5a; have h6 := h5a.swap))
        go_ret
        have e3 : ([] : List Value) ++ msV l ++ msV [(k, 0)] = msV (l ++ [(k, 0)]) := by rw [List.nil_append, msV_append]
        have e4 : (l ++ [(k, 0)]).length = n + 1 := by have := HN.out; simp; omega
        have h9 := hfin.out
        rw [e3, Nat.zero_add] at h9
        exact WPst.mk HE.out rfl (St.toWn (b := (l ++ [(k, 0)], b.2)) e4 rfl ((h9.eq (B := star (star (pt w5.heap.size (.cells #[.int .i64 k, .int .i64 0] 52 (0, 0))) (Row 52 2 (.slice la n lc) n (msV l))) (star (pt p (.cells #[.slice a7 (n + 1) c7, .slice pa b.2.length pc] 47 (0, 0))) (star (Row 52 2 (.slice a7 (n + 1) c7) (n + 1) (msV (l ++ [(k, (0 : Nat))]))) (star (Row 83 2 (.slice pa b.2.length pc) b.2.length (psV b.2)) R)))) (by show star (pt p (.cells #[_, _] _ _)) _ = _; ac_rfl)).right))
end Go.Proofs.YtdobgebdlbckoaaGreatDoor.BkQ2
namespace Go.Proofs.YtdobgebdlbckoaaGreatDoor.BkQ3
open Go Go.RowKit Go.Proofs Go.Proofs.YtdobgebdlbckoaaGreatDoor.Sep Go.Proofs.YtdobgebdlbckoaaGreatDoor.Reg Go.Proofs.YtdobgebdlbckoaaGreatDoor.Frame Go.Proofs.YtdobgebdlbckoaaGreatDoor.Slc Go.Proofs.YtdobgebdlbckoaaGreatDoor.Held Go.Proofs.YtdobgebdlbckoaaGreatDoor.Mp Go.Proofs.YtdobgebdlbckoaaGreatDoor.WdP Go.Proofs.YtdobgebdlbckoaaGreatDoor.TpP Go.Proofs.YtdobgebdlbckoaaGreatDoor.TpA Go.Proofs.YtdobgebdlbckoaaGreatDoor.TpL Go.Proofs.YtdobgebdlbckoaaGreatDoor.TpR Go.Proofs.YtdobgebdlbckoaaGreatDoor.BkP Go.Proofs.YtdobgebdlbckoaaGreatDoor.BkA Go.Proofs.YtdobgebdlbckoaaGreatDoor.BkLp Go.Proofs.YtdobgebdlbckoaaGreatDoor.BkU Go.Proofs.YtdobgebdlbckoaaGreatDoor.BkPp Go.Proofs.YtdobgebdlbckoaaGreatDoor.BkQ Go.Proofs.YtdobgebdlbckoaaGreatDoor.BkQ2

def trL : Tr := .plain 0 (.plain 2 (.plain 3 (.plain 4 (.held 5 (.plain 6 (.plain 7 (.plain 9 (.plain 10 (.plain 11 (.held 12 (.plain 13 (.plain 14 (.plain 15 (.one 1 (.one 8 (.one 16 (.plain 17 (.plain 18 (.one 19 .done)))))))))))))))))))
attribute [local go_sem] Oper.semAt_some
theorem litP {W w : World} {g n : Nat} {l : List Pr} {R : Asn} (hn : l.length = n) (hm : n ≤ 1000000) (h : St W w (star (pt g (.cells (psV l).toArray 83 (0, 0))) R)) : Sl w 2 (.slice (some ⟨g, 0, none⟩) n n) n (psV l) :=
  (St.mkRow (size := 2) (n := n) (cap := n) (xs := psV l) h (Nat.le_refl _) (by unfold maxLen; omega) (by simp [psV_length, hn]) (by
    show (psV l).take (n * 2) = psV l
    exact List.take_of_length_le (by simp [psV_length, hn]))).rowSl
theorem cutM {w : World} {a : Option Addr} {n c : Nat} {l : Pub} (h : Sl w 2 (.slice a n c) n (msV l)) (i j : Nat) (h1 : i ≤ j) (h2 : j ≤ n) : Sl w 2 (cutV a c i j 2) (j - i) (msV ((l.drop i).take (j - i))) := by
  have := h.cut i j h1 h2
  rwa [msV_drop, msV_take] at this
set_option maxRecDepth 100000 in
set_option maxHeartbeats 16000000 in
theorem rLeave_any {W w : World} {R : Asn} (p : Nat) (b : BS) (h : St W w (star (IsW p b) R)) (hb : b.1.length ≤ 1000000) (hb2 : b.2.length ≤ 1000000) (hkn : KN b) (k : Int) :
    Calls Tryz.prog 19 #[.pointer (some ⟨p, 0, none⟩), .int .i64 k] w (WPst W p (leaveB b k) R) := by
  obtain ⟨la, lc, pa, pc, h1⟩ := St.isW h
  have HAt := Lib.hid (rAt_any p b h hb k _ rfl)
  obtain ⟨r, hr⟩ : ∃ r, leaveB b k = r := ⟨_, rfl⟩
  rw [hr]
  have HR := Lib.hid hr
  have HH := Lib.hid h
  have HKN := Lib.hid hkn
  clear h hr hkn
  cases hm : isM b k with
  | false =>
    have hq := atM_out hm
    rw [hq] at HAt
    have HE : Hid (r = (4, b)) := Lib.hid (by rw [← HR.out]; unfold leaveB; rw [hm]; rfl)
    clear hm h1 hq
    go_enter Tryz.func19, Tryz.ntmps19
    go_wp2_with fail
    refine HAt.out.mono ?_
    rintro e w1 hq1
    have h2 := HH.out.makes hq1
    obtain ⟨rfl, -⟩ := hq1
    go_wp2
    go_ret
    exact WPst.mk HE.out rfl h2
  | true =>
    obtain ⟨q, v0, hqn, hqx, hqa, -⟩ := atM_mem HKN.out hm
    rw [hqa] at HAt
    have HE : Hid (r = (0, (b.1.take q ++ b.1.drop (q + 1), dropAllP b.2 k))) := Lib.hid (by rw [← HR.out]; unfold leaveB; rw [hm, if_pos rfl, cut_del HKN.out hqx])
    clear hm hqx hqa HKN HH
    obtain ⟨l, hl⟩ : ∃ l, b.1 = l := ⟨_, rfl⟩
    obtain ⟨ps, hps⟩ : ∃ ps, b.2 = ps := ⟨_, rfl⟩
    obtain ⟨n, hn⟩ : ∃ n, l.length = n := ⟨_, rfl⟩
    obtain ⟨m, hm⟩ : ∃ m, ps.length = m := ⟨_, rfl⟩
    rw [hl, hps, hn, hm] at h1
    rw [hl, hps] at HE
    rw [hl, hn] at hb hqn
    rw [hps, hm] at hb2
    have HN := Lib.hid hn
    have HM := Lib.hid hm
    clear hl hps hn hm
    obtain ⟨i0, hi0, hz0, hz1, hz2⟩ := info_parts infoM
    obtain ⟨j0, hj0, hy0, hy1, hy2⟩ := info_parts infoP
    have U := Tryz.underlying44
    have UP := Tryz.underlying45
    have hnc : n ≤ lc := by obtain ⟨_, _, _, hv, h, h2, _⟩ := h1.right.rowSl; cases hv; exact h
    have hq1 := fun w => run_cut_h' (P := Tryz.prog) 44 52 2 U infoM2 la n lc (q : Int) q rfl (by omega) w
    have hq2 := fun w => run_cut_l' (P := Tryz.prog) 44 52 2 U infoM2 la n lc ((q : Int) + 1) (q + 1) (by omega) (by omega) w
    go_enter Tryz.func19, Tryz.ntmps19
    go_wp2_with fail
    refine HAt.out.mono ?_
    rintro e w1 hq1'
    have h1 := h1.makes hq1'
    obtain ⟨rfl, -⟩ := hq1'
    clear HAt HR
    go_wp2_with fail
    have h1 := h1.drew
    refine Go.Proofs.YtdobgebdlbckoaaGreatDoor.Held.wp_region_held (fun w' => w'.cell? ⟨p, 0, none⟩ = some (.slice la n lc)) [19] trL (by kernel_rfl) (by kernel_rfl) (h1.cell 0 rfl) ?_
    generalize w1.drew = w2 at *
    unfold trL
    refine tr_plain (.pointer (some ⟨p, 0, none⟩)) rfl ?_ (by simp only [nthOp, Act.put, List.setIfInBounds_toArray, List.set_cons_succ, List.set_cons_zero]; rfl) ?_
    · exact fun _ => rfl
    refine tr_plain (.pointer (some ⟨p, 0, none⟩)) rfl ?_ (by simp only [nthOp, Act.put, List.setIfInBounds_toArray, List.set_cons_succ, List.set_cons_zero]; rfl) ?_
    · exact fun _ => rfl
    refine tr_plain (.pointer (some ⟨p, 0, none⟩)) rfl ?_ (by simp only [nthOp, Act.put, List.setIfInBounds_toArray, List.set_cons_succ, List.set_cons_zero]; rfl) ?_
    · (intro w'; simp only [nthOp]; go_simp)
    refine tr_plain (.pointer (some ⟨p, 0, none⟩)) rfl ?_ (by simp only [nthOp, Act.put, List.setIfInBounds_toArray, List.set_cons_succ, List.set_cons_zero]; rfl) ?_
    · (intro w'; simp only [nthOp]; go_simp)
    refine tr_held (.slice la n lc) rfl ?_ (by simp only [nthOp, Act.put, List.setIfInBounds_toArray, List.set_cons_succ, List.set_cons_zero]; rfl) ?_
    · (intro w' hc1; simp only [nthOp]; go_simp)
    refine tr_plain (.int .i64 (q : Nat)) rfl ?_ (by simp only [nthOp, Act.put, List.setIfInBounds_toArray, List.set_cons_succ, List.set_cons_zero]; rfl) ?_
    · exact fun _ => rfl
    refine tr_plain (cutV la lc 0 q 2) rfl ?_ (by simp only [nthOp, Act.put, List.setIfInBounds_toArray, List.set_cons_succ, List.set_cons_zero]; rfl) ?_
    · (intro w'; simp only [nthOp]; have hq := hq1 w'; go_simp)
    refine tr_plain (.pointer (some ⟨p, 0, none⟩)) rfl ?_ (by simp only [nthOp, Act.put, List.setIfInBounds_toArray, List.set_cons_succ, List.set_cons_zero]; rfl) ?_
    · exact fun _ => rfl
    refine tr_plain (.pointer (some ⟨p, 0, none⟩)) rfl ?_ (by simp only [nthOp, Act.put, List.setIfInBounds_toArray, List.set_cons_succ, List.set_cons_zero]; rfl) ?_
    · (intro w'; simp only [nthOp]; go_simp)
    refine tr_plain (.pointer (some ⟨p, 0, none⟩)) rfl ?_ (by simp only [nthOp, Act.put, List.setIfInBounds_toArray, List.set_cons_succ, List.set_cons_zero]; rfl) ?_
    · (intro w'; simp only [nthOp]; go_simp)
    refine tr_held (.slice la n lc) rfl ?_ (by simp only [nthOp, Act.put, List.setIfInBounds_toArray, List.set_cons_succ, List.set_cons_zero]; rfl) ?_
    · (intro w' hc1; simp only [nthOp]; go_simp)
    refine tr_plain (.int .i64 (q : Nat)) rfl ?_ (by simp only [nthOp, Act.put, List.setIfInBounds_toArray, List.set_cons_succ, List.set_cons_zero]; rfl) ?_
    · exact fun _ => rfl
    refine tr_plain (.int .i64 ((q : Int) + 1)) rfl ?_ (by simp only [nthOp, Act.put, List.setIfInBounds_toArray, List.set_cons_succ, List.set_cons_zero]; rfl) ?_
    · (intro w'; simp only [nthOp]; go_simp; rw [IntKind.wrap_i64]; omega)
    refine tr_plain (cutV la lc (q + 1) n 2) rfl ?_ (by simp only [nthOp, Act.put, List.setIfInBounds_toArray, List.set_cons_succ, List.set_cons_zero]; rfl) ?_
    · (intro w'; simp only [nthOp]; have hq := hq2 w'; go_simp)
    have h2 := h1.alloc (.cells #[] 52)
    have h3 := St.mkRow (size := 2) (n := 0) (cap := 0) (xs := []) h2 (Nat.le_refl _) (Nat.zero_le _) rfl rfl
    have c3 := h3.right.cell 0 (v := .slice la n lc) rfl
    have hA := cutM h3.right.right.rowSl 0 q (Nat.zero_le _) (by omega)
    refine tr_one ?_
    simp only [nthOp]
    go_wp2_with fail
    simp only [Reg.Next]
    refine ⟨fun _ => c3, tr_one ?_⟩
    simp only [nthOp]
    go_wp2_with (at_builtin; refine wpList_append_Sl rfl (.tmp 14) (.tmp 20) 44 rfl 52 i0 zM 2 16 U hi0 hz0 hz1 hz2 rfl _ 0 [] rfl h3 _ (q - 0) (msV ((l.drop 0).take (q - 0))) rfl hA (msV_one _) (by unfold maxLen; omega) (by omega) ?_; intro v5 w5 h5 _)
    have c5 := h5.right.cell 0 (v := .slice la n lc) rfl
    have hC := cutM h5.right.right.rowSl (q + 1) n (by omega) (by omega)
    simp only [Reg.Next]
    refine ⟨c5, tr_one ?_⟩
    simp only [nthOp]
    go_wp2_with (at_builtin; refine wpList_append_Sl rfl (.tmp 21) (.tmp 28) 44 rfl 52 i0 zM 2 16 U hi0 hz0 hz1 hz2 rfl _ (0 + (q - 0)) _ rfl h5 _ (n - (q + 1)) (msV ((l.drop (q + 1)).take (n - (q + 1)))) rfl hC (msV_one _) (by unfold maxLen; omega) (by omega) ?_; intro v7 w7 h7 _)
    have e3 : ([] : List Value) ++ msV ((l.drop 0).take (q - 0)) ++ msV ((l.drop (q + 1)).take (n - (q + 1))) = msV (l.take q ++ l.drop (q + 1)) := by
      have : (l.drop (q + 1)).take (n - (q + 1)) = l.drop (q + 1) := List.take_of_length_le (by have := HN.out; simp; omega)
      rw [this, List.nil_append, msV_append]; simp
    have e4 : 0 + (q - 0) + (n - (q + 1)) = (l.take q ++ l.drop (q + 1)).length := by have := HN.out; simp; omega
    obtain ⟨L, hL⟩ : ∃ L, l.take q ++ l.drop (q + 1) = L := ⟨_, rfl⟩
    obtain ⟨nl, hnl⟩ : ∃ nl, L.length = nl := ⟨_, rfl⟩
    rw [hL] at e3 e4 HE
    rw [hnl] at e4
    rw [e3, e4] at h7
    have HNL := Lib.hid hnl
    clear e3 e4 hL hnl hC hA c3 c5 h1 h2 h3 h5 hq1 hq2
    obtain ⟨_, a7, c7, rfl, _⟩ := id h7.rowSl
    have h8 := h7.eq (B := star (pt p (.cells #[.slice la n lc, .slice pa m pc] 47 (0, 0))) (star (Row 52 2 (.slice a7 nl c7) nl (msV L)) (star (Row 83 2 (.slice pa m pc) m (psV ps)) (star R (Row 52 2 (.slice la n lc) n (msV l)))))) (by ac_rfl)
    have f8 := h8.free 0
    have d8 := h8.cell 0 (v := .slice la n lc) rfl
    have h9 := h8.setCell 0 (.slice a7 nl c7)
    have h9 : St W _ (star (pt p (.cells #[.slice a7 nl c7, .slice pa m pc] 47 (0, 0))) (star (Row 52 2 (.slice a7 nl c7) nl (msV L)) (star (Row 83 2 (.slice pa m pc) m (psV ps)) (star R (Row 52 2 (.slice la n lc) n (msV l)))))) := h9
    simp only [Reg.Next]
    refine ⟨d8, ?_⟩
    refine tr_plain (.pointer (some ⟨p, 0, none⟩)) rfl ?_ (by simp only [nthOp, Act.put, List.setIfInBounds_toArray, List.set_cons_succ, List.set_cons_zero]; rfl) ?_
    · (intro w'; simp only [nthOp]; go_simp)
    refine tr_plain (.pointer (some ⟨p, 0, none⟩)) rfl ?_ (by simp only [nthOp, Act.put, List.setIfInBounds_toArray, List.set_cons_succ, List.set_cons_zero]; rfl) ?_
    · (intro w'; simp only [nthOp]; go_simp)
    refine tr_one ?_
    simp only [nthOp]
    go_wp2_with fail
    simp only [Reg.Next]
    refine ⟨fun h => absurd h (by decide), tr_done ?_⟩
    clear f8 d8 h8 h7
    generalize w7.setCell ⟨p, 0, none⟩ (.slice a7 nl c7) = w9 at *
    have h9 := h9.eq (B := star (Row 52 2 (.slice la n lc) n (msV l)) (star (Row 83 2 (.slice pa m pc) m (psV ps)) (star (pt p (.cells #[.slice a7 nl c7, .slice pa m pc] 47 (0, 0))) (star (Row 52 2 (.slice a7 nl c7) nl (msV L)) R)))) (by ac_rfl) |>.right
    go_wp2_with fail
    go_loopw [6, 7] (fun ov iv wr => ∃ i : Nat, i ≤ m ∧ iv = .int .i64 i ∧ St W wr (star (Row 83 2 ov (dropAllP (ps.take i) k).length (psV (dropAllP (ps.take i) k))) (star (Row 83 2 (.slice pa m pc) m (psV ps)) (star (pt p (.cells #[.slice a7 nl c7, .slice pa m pc] 47 (0, 0))) (star (Row 52 2 (.slice a7 nl c7) nl (msV L)) R))))) (fun _ iv _ => m - (intOf iv).toNat)
    case atStart => exact ⟨0, Nat.zero_le _, rfl, h9.nilRow⟩
    case round =>
      obtain ⟨i, hi, rfl, hS⟩ := hrel
      obtain ⟨_, va, vk, rfl, _⟩ := id hS.rowSl
      clear h9
      by_cases hin : i < m
      · obtain ⟨x, hx⟩ : ∃ x, ps[i]? = some x := ⟨_, List.getElem?_eq_getElem (by rw [HM.out]; exact hin)⟩
        obtain ⟨ab, ao, rfl, hel⟩ := elP hS.right.rowSl hx
        have HTS : Hid (dropAllP (ps.take (i + 1)) k = dropAllP (ps.take i) k ++ (if x.2 = k then [] else [x])) := Lib.hid (dropAll_step ps k i x hx)
        obtain ⟨x1, x2⟩ := x
        obtain ⟨he0, he1⟩ := hel _ _ (St.start wr)
        have c1 := hS.right.right.cell 1 (v := .slice (some ⟨ab, ao, none⟩) m pc) rfl
        have hinI : (i : Int) < m := by omega
        have hml : (dropAllP (ps.take i) k).length ≤ i := Nat.le_trans (List.length_filter_le _ _) (by simp; omega)
        obtain ⟨D, hD⟩ : ∃ D, dropAllP (ps.take i) k = D := ⟨_, rfl⟩
        rw [hD] at hS HTS hml
        obtain ⟨dn, hdn⟩ : ∃ dn, D.length = dn := ⟨_, rfl⟩
        rw [hdn] at hS hml
        rw [hD, hdn]
        have HD := Lib.hid hdn
        clear hel hx hD hdn
        cases ht : (x2 == k)
        · have hne : x2 ≠ k := by simpa using ht
          have htb : (x2 != k) = true := by simpa using ht
          rw [if_neg hne] at HTS
          clear hne
          have h2 := hS.alloc (.cells #[.string ⟨x1.toArray⟩, .int .i64 x2] 83)
          have hone := litP (l := [(x1, x2)]) rfl (by simp) h2
          have h3 := h2.swap
          clear h2
          go_wp2_with (at_builtin; refine wpList_append_Sl rfl (.tmp 51) (.tmp 59) 45 rfl 83 j0 zP 2 24 UP hj0 hy0 hy1 hy2 rfl _ dn (psV D) rfl h3 _ 1 (psV [(x1, x2)]) rfl hone (psV_one _) (by unfold maxLen; omega) (by omega) ?_; intro v9 w10 hS9 hv9)
          have e3 : psV D ++ psV [(x1, x2)] = psV (D ++ [(x1, x2)]) := by rw [psV_append]
          have e4 : (D ++ [(x1, x2)]).length = dn + 1 := by simp [HD.out]
          refine ⟨⟨i + 1, hin, by go_num, ?_⟩, by simp [intOf]; omega⟩
          rw [HTS.out, e4, ← e3]
          exact hS9.swap.right
        · have hne : x2 = k := by simpa using ht
          have htb : (x2 != k) = false := by simpa using ht
          rw [if_pos hne, List.append_nil] at HTS
          clear hne
          go_wp2_with fail
          exact ⟨⟨i + 1, hin, by go_num, by rw [HTS.out, HD.out]; exact hS⟩, by simp [intOf]; omega⟩
      · obtain rfl : m = i := by omega
        have e1 : ps.take m = ps := List.take_of_length_le (by rw [HM.out]; exact Nat.le_refl _)
        rw [e1] at hS ⊢
        obtain ⟨D, hD⟩ : ∃ D, dropAllP ps k = D := ⟨_, rfl⟩
        obtain ⟨dn, hdn⟩ : ∃ dn, D.length = dn := ⟨_, rfl⟩
        rw [hD] at hS HE
        rw [hdn] at hS
        rw [hD, hdn]
        have HD := Lib.hid hdn
        clear e1 hD hdn
        have h4 := hS.eq (B := star (pt p (.cells #[.slice a7 nl c7, .slice pa m pc] 47 (0, 0))) (star (Row 52 2 (.slice a7 nl c7) nl (msV L)) (star (Row 83 2 (.slice va dn vk) dn (psV D)) (star R (Row 83 2 (.slice pa m pc) m (psV ps)))))) (by ac_rfl)
        have f4 := h4.free 1
        have d4 := h4.cell 1 (v := .slice pa m pc) rfl
        have h5 := h4.setCell 1 (.slice va dn vk)
        have h5 : St W _ (star (pt p (.cells #[.slice a7 nl c7, .slice va dn vk] 47 (0, 0))) (star (Row 52 2 (.slice a7 nl c7) nl (msV L)) (star (Row 83 2 (.slice va dn vk) dn (psV D)) (star R (Row 83 2 (.slice pa m pc) m (psV ps)))))) := h5
        have HF := Lib.hid (St.toWn (b := (L, D)) HNL.out HD.out h5)
        clear h4 h5 hS
        go_wp2
        go_ret
        exact WPst.mk HE.out rfl ((HF.out.eq (B := star (Row 83 2 (.slice pa m pc) m (psV ps)) (star (IsW p (L, D)) R)) (by ac_rfl)).right)
end Go.Proofs.YtdobgebdlbckoaaGreatDoor.BkQ3
namespace Go.Proofs.YtdobgebdlbckoaaGreatDoor.BkQ4
open Go Go.RowKit Go.Proofs Go.Proofs.YtdobgebdlbckoaaGreatDoor.Sep Go.Proofs.YtdobgebdlbckoaaGreatDoor.Reg Go.Proofs.YtdobgebdlbckoaaGreatDoor.Frame Go.Proofs.YtdobgebdlbckoaaGreatDoor.Slc Go.Proofs.YtdobgebdlbckoaaGreatDoor.Mp Go.Proofs.YtdobgebdlbckoaaGreatDoor.WdP Go.Proofs.YtdobgebdlbckoaaGreatDoor.TpP Go.Proofs.YtdobgebdlbckoaaGreatDoor.TpA Go.Proofs.YtdobgebdlbckoaaGreatDoor.TpL Go.Proofs.YtdobgebdlbckoaaGreatDoor.TpR Go.Proofs.YtdobgebdlbckoaaGreatDoor.BkP Go.Proofs.YtdobgebdlbckoaaGreatDoor.BkA Go.Proofs.YtdobgebdlbckoaaGreatDoor.BkLp Go.Proofs.YtdobgebdlbckoaaGreatDoor.BkU Go.Proofs.YtdobgebdlbckoaaGreatDoor.BkPp Go.Proofs.YtdobgebdlbckoaaGreatDoor.BkQ Go.Proofs.YtdobgebdlbckoaaGreatDoor.BkQ2

theorem cutI {w : World} {a : Option Addr} {n c : Nat} {l : List Int} (h : Sl w 1 (.slice a n c) n (l.map kI)) (i j : Nat) (h1 : i ≤ j) (h2 : j ≤ n) : Sl w 1 (cutV a c i j 1) (j - i) (((l.drop i).take (j - i)).map kI) := by
  have := h.cut i j h1 h2
  rwa [Nat.mul_one, Nat.mul_one, ← List.map_drop, ← List.map_take] at this
theorem elJ {w : World} {a : Option Addr} {n c : Nat} {l : List Int} (h : Sl w 1 (.slice a n c) n (l.map kI)) {i : Nat} {x : Int} (hx : l[i]? = some x) : ∃ b o, a = some ⟨b, o, none⟩ ∧ ∀ wr A, St w wr A → wr.cell? ⟨b, o + i, none⟩ = some (.int .i64 x) := by
  have hg : (l.map kI)[i]? = some (kI x) := by rw [List.getElem?_map, hx]; rfl
  obtain ⟨ab, ao, rfl, hc⟩ := sl_addr h (by have := (List.getElem?_eq_some_iff.1 hg).1; omega)
  refine ⟨ab, ao, rfl, fun wr A hS => ?_⟩
  have h0 : w.cell? ⟨ab, ao + i, none⟩ = some (.int .i64 x) := by simpa using hc i _ hg
  exact (hS.old (World.block_lt_of_cell? w _ h0)).trans h0
theorem take_less {o : List Int} {k : Nat} {x y : Int} (hy : o[k]? = some y) (hl : y < x) (h : ∀ z ∈ o.take k, z < x) : ∀ z ∈ o.take (k + 1), z < x := by
  intro z hz
  rw [List.take_add_one, hy] at hz
  rcases List.mem_append.1 hz with h1 | h1
  · exact h z h1
  · simp at h1; omega
set_option maxRecDepth 100000 in
set_option maxHeartbeats 8000000 in
theorem rMembers_any {W w : World} {R : Asn} (p : Nat) (l : Pub) (n : Nat) (hn : l.length = n) (la : Option Addr) (lc : Nat) (v2 : Value) (h1 : St W w (star (pt p (.cells #[.slice la n lc, v2] 47 (0, 0))) (star (Row 52 2 (.slice la n lc) n (msV l)) R))) (hb : n ≤ 1000000) :
    Calls Tryz.prog 23 #[.pointer (some ⟨p, 0, none⟩)] w fun e w' => ∃ a' c', e = .returned (.slice a' n c') ∧ St W w' (star (Row 3 1 (.slice a' n c') n ((sortI (l.map (·.1))).map kI)) (star (pt p (.cells #[.slice la n lc, v2] 47 (0, 0))) (star (Row 52 2 (.slice la n lc) n (msV l)) R))) := by
  have HH := Lib.hid h1
  have HC0 : Hid (∀ wr A, St w wr A → wr.cell? ⟨p, 0, none⟩ = some (.slice la n lc)) := Lib.hid fun wr A hS => (hS.old (World.block_lt_of_cell? w _ (h1.cell 0 (v := .slice la n lc) rfl))).trans (h1.cell 0 rfl)
  have HSL := Lib.hid h1.right.rowSl
  have HN := Lib.hid hn
  obtain ⟨i0, hi0, hz0, hz1, hz2⟩ := info_parts infoI
  have U := Tryz.underlying33
  clear hn h1
  go_enter Tryz.func23, Tryz.ntmps23
  go_wp2_with fail
  go_loopw [3, 4] (fun ov iv wr => ∃ (i : Nat) (o : List Int), i ≤ n ∧ iv = .int .i64 i ∧ Hid (Ris o ((l.take i).map (·.1))) ∧ o.length = i ∧ St w wr (star (Row 3 1 ov i (o.map kI)) emp)) (fun _ iv _ => n - (intOf iv).toNat)
  case atStart => exact ⟨0, [], Nat.zero_le _, rfl, Lib.hid (by simpa using Ris.nil), rfl, (St.start w).nilRow (e := 3) (size := 1)⟩
  case round =>
    obtain ⟨i, o, hi, rfl, HRI, hol, hS⟩ := hrel
    obtain ⟨_, va, vk, rfl, _⟩ := id hS.rowSl
    have HOL := Lib.hid hol
    clear hol
    have c0 := HC0.out _ _ hS
    by_cases hin : i < n
    · obtain ⟨x, hx⟩ : ∃ x, l[i]? = some x := ⟨_, List.getElem?_eq_getElem (by rw [HN.out]; exact hin)⟩
      obtain ⟨ab, ao, rfl, hel⟩ := elM HSL.out hx
      have hinI : (i : Int) < n := by omega
      have HTX : Hid ((l.take (i + 1)).map (·.1) = (l.take i).map (·.1) ++ [x.1]) := Lib.hid (by rw [List.take_add_one, hx]; simp)
      obtain ⟨x1, x2⟩ := x
      have HEL := Lib.hid hel
      have he0 := (hel _ _ hS).1
      clear hel hx
      go_wp2_with fail
      go_loopw [5] (fun kv wr => ∃ q : Nat, q ≤ i ∧ kv = .int .i64 q ∧ Hid (∀ z ∈ o.take q, z < x1) ∧ St w wr (star (Row 3 1 (.slice va i vk) i (o.map kI)) emp)) (fun kv _ => i - (intOf kv).toNat)
      case atStart => exact ⟨0, Nat.zero_le _, rfl, Lib.hid (by simp), hS⟩
      case round =>
        obtain ⟨q, hq, rfl, HTK, hS⟩ := hrel
        have c0 := HC0.out _ _ hS
        have he0 := (HEL.out _ _ hS).1
        by_cases hqi : q < i
        · obtain ⟨y, hy⟩ : ∃ y, o[q]? = some y := ⟨_, List.getElem?_eq_getElem (by rw [HOL.out]; exact hqi)⟩
          obtain ⟨vb, vq, rfl, hyc⟩ := elJ hS.rowSl hy
          have c1 := hyc _ _ (St.start wr)
          have hqiI : (q : Int) < i := by omega
          have HY := Lib.hid hy
          clear hy hyc
          cases hlt : decide (y < x1)
          · have HNL : Hid (∀ z, o[q]? = some z → x1 ≤ z) := Lib.hid (by
              intro z hz; rw [HY.out] at hz; cases hz; have := of_decide_eq_false hlt; omega)
            have HR2 : Hid (Ris (o.take q ++ x1 :: o.drop q) ((l.take (i + 1)).map (·.1))) := Lib.hid (by rw [HTX.out]; exact HRI.out.ins HTK.out HNL.out)
            clear HNL
            go_wp2_with fail
            go_big_quiet (fail)
            have hS := hS.drewN nq
            have c0 := HC0.out _ _ hS
            have he0 := (HEL.out _ _ hS).1
            generalize wr.drewN nq = w4 at *
            have hmvk : i ≤ vk ∧ vk ≤ 9223372036854775807 := by obtain ⟨_, _, _, hv, h, h2, _⟩ := hS.rowSl; cases hv; exact ⟨h, by simpa [maxLen] using h2⟩
            have hq1 := fun w => run_cut_h' (P := Tryz.prog) 33 3 1 U (by kernel_rfl) (some ⟨vb, vq, none⟩) i vk (q : Int) q rfl (by omega) w
            have hq2 := fun w => run_cut_l' (P := Tryz.prog) 33 3 1 U (by kernel_rfl) (some ⟨vb, vq, none⟩) i vk (q : Int) q rfl (by omega) w
            have h2 := hS.alloc (.cells #[] 3)
            have h3 := St.mkRow (size := 1) (n := 0) (cap := 0) (xs := []) h2 (Nat.le_refl _) (Nat.zero_le _) rfl rfl
            have hA := cutI h3.right.rowSl 0 q (Nat.zero_le _) (by omega)
            clear h2
            go_wp2_with (at_builtin; first
              | (refine wpList_append_Sl rfl (.tmp 53) (.tmp 56) 33 rfl 3 i0 (.int .i64 0) 1 8 U hi0 hz0 hz1 hz2 rfl _ (0 + (q - 0) + 1) _ rfl h7 _ (i - q) (((o.drop q).take (i - q)).map kI) rfl hC (oneI _) (by unfold maxLen; omega) (by omega) ?_; intro v9 w9 h9 _)
              | (refine wpList_append_Sl rfl (.tmp 42) (.tmp 51) 33 rfl 3 i0 (.int .i64 0) 1 8 U hi0 hz0 hz1 hz2 rfl _ (0 + (q - 0)) _ rfl h6 _ 1 ([x1].map kI) rfl hone (oneI _) (by unfold maxLen; omega) (by omega) ?_; intro v7 w7 h7 _; have hC := cutI (h7.eq (B := star (Row 3 1 (.slice (some ⟨vb, vq, none⟩) i vk) i (o.map kI)) (star (pt w5.heap.size (.cells #[.int .i64 x1] 3 (0, 0))) (star (Row 3 1 v7 (0 + (q - 0) + 1) ([] ++ ((o.drop 0).take (q - 0)).map kI ++ [x1].map kI)) emp))) (by ac_rfl)).rowSl q i (by omega) (Nat.le_refl _))
              | (refine wpList_append_Sl rfl (.tmp 37) (.tmp 40) 33 rfl 3 i0 (.int .i64 0) 1 8 U hi0 hz0 hz1 hz2 rfl _ 0 [] rfl h3 _ (q - 0) (((o.drop 0).take (q - 0)).map kI) rfl hA (oneI _) (by unfold maxLen; omega) (by omega) ?_; intro v5 w5 h5 _; have c0 := HC0.out _ _ h5; have he0 := (HEL.out _ _ h5).1; have h5a := h5.alloc (.cells #[.int .i64 x1] 3); have hone := litI (l := [x1]) rfl (by simp) h5a; have h6 := h5a.eq (B := star (Row 3 1 v5 (0 + (q - 0)) ([] ++ ((o.drop 0).take (q - 0)).map kI)) (star (pt w5.heap.size (.cells #[.int .i64 x1] 3 (0, 0))) (star (Row 3 1 (.slice (some ⟨vb, vq, none⟩) i vk) i (o.map kI)) emp))) (by ac_rfl)))
            have e3 : ([] : List Value) ++ ((o.drop 0).take (q - 0)).map kI ++ [x1].map kI ++ ((o.drop q).take (i - q)).map kI = (o.take q ++ x1 :: o.drop q).map kI := by
              have : (o.drop q).take (i - q) = o.drop q := List.take_of_length_le (by have := HOL.out; simp; omega)
              rw [this]; simp
            have e4 : 0 + (q - 0) + 1 + (i - q) = i + 1 := by omega
            refine ⟨⟨i + 1, o.take q ++ x1 :: o.drop q, hin, by go_num, HR2, by have := HOL.out; simp; omega, ?_⟩, by simp [intOf]; omega⟩
            rw [← e3, ← e4]
            exact (h9.eq (B := star (star (pt w5.heap.size (.cells #[.int .i64 x1] 3 (0, 0))) (Row 3 1 (.slice (some ⟨vb, vq, none⟩) i vk) i (o.map kI))) (star (Row 3 1 v9 (0 + (q - 0) + 1 + (i - q)) ([] ++ ((o.drop 0).take (q - 0)).map kI ++ [x1].map kI ++ ((o.drop q).take (i - q)).map kI)) emp)) (by ac_rfl)).right
          · have HT2 : Hid (∀ z ∈ o.take (q + 1), z < x1) := Lib.hid (take_less HY.out (of_decide_eq_true hlt) HTK.out)
            go_wp2_with fail
            go_big_quiet (fail)
            have hS2 := hS.drewN nq
            go_wp2_with fail
            exact ⟨⟨q + 1, hqi, by go_num, HT2, hS2⟩, by simp [intOf]; omega⟩
        · obtain rfl : i = q := by omega
          have HR2 : Hid (Ris (o.take i ++ x1 :: o.drop i) ((l.take (i + 1)).map (·.1))) := Lib.hid (by rw [HTX.out]; exact HRI.out.ins HTK.out (fun z hz => by rw [List.getElem?_eq_none (by rw [HOL.out]; exact Nat.le_refl _)] at hz; cases hz))
          have hqiI : decide ((i : Int) < i) = false := decide_eq_false (by omega)
          go_wp2_with fail
          go_big_quiet (fail)
          have hS := hS.drewN nq
          have c0 := HC0.out _ _ hS
          have he0 := (HEL.out _ _ hS).1
          generalize wr.drewN nq = w4 at *
          have hmvk : i ≤ vk ∧ vk ≤ 9223372036854775807 := by obtain ⟨_, _, _, hv, h, h2, _⟩ := hS.rowSl; cases hv; exact ⟨h, by simpa [maxLen] using h2⟩
          have hq1 := fun w => run_cut_h' (P := Tryz.prog) 33 3 1 U (by kernel_rfl) va i vk (i : Int) i rfl (by omega) w
          have hq2 := fun w => run_cut_l' (P := Tryz.prog) 33 3 1 U (by kernel_rfl) va i vk (i : Int) i rfl (by omega) w
          have h2 := hS.alloc (.cells #[] 3)
          have h3 := St.mkRow (size := 1) (n := 0) (cap := 0) (xs := []) h2 (Nat.le_refl _) (Nat.zero_le _) rfl rfl
          have hA := cutI h3.right.rowSl 0 i (Nat.zero_le _) (by omega)
          clear h2
          go_wp2_with (at_builtin; first
            | (refine wpList_append_Sl rfl (.tmp 53) (.tmp 56) 33 rfl 3 i0 (.int .i64 0) 1 8 U hi0 hz0 hz1 hz2 rfl _ (0 + (i - 0) + 1) _ rfl h7 _ (i - i) (((o.drop i).take (i - i)).map kI) rfl hC (oneI _) (by unfold maxLen; omega) (by omega) ?_; intro v9 w9 h9 _)
            | (refine wpList_append_Sl rfl (.tmp 42) (.tmp 51) 33 rfl 3 i0 (.int .i64 0) 1 8 U hi0 hz0 hz1 hz2 rfl _ (0 + (i - 0)) _ rfl h6 _ 1 ([x1].map kI) rfl hone (oneI _) (by unfold maxLen; omega) (by omega) ?_; intro v7 w7 h7 _; have hC := cutI (h7.eq (B := star (Row 3 1 (.slice va i vk) i (o.map kI)) (star (pt w5.heap.size (.cells #[.int .i64 x1] 3 (0, 0))) (star (Row 3 1 v7 (0 + (i - 0) + 1) ([] ++ ((o.drop 0).take (i - 0)).map kI ++ [x1].map kI)) emp))) (by ac_rfl)).rowSl i i (by omega) (Nat.le_refl _))
            | (refine wpList_append_Sl rfl (.tmp 37) (.tmp 40) 33 rfl 3 i0 (.int .i64 0) 1 8 U hi0 hz0 hz1 hz2 rfl _ 0 [] rfl h3 _ (i - 0) (((o.drop 0).take (i - 0)).map kI) rfl hA (oneI _) (by unfold maxLen; omega) (by omega) ?_; intro v5 w5 h5 _; have c0 := HC0.out _ _ h5; have he0 := (HEL.out _ _ h5).1; have h5a := h5.alloc (.cells #[.int .i64 x1] 3); have hone := litI (l := [x1]) rfl (by simp) h5a; have h6 := h5a.eq (B := star (Row 3 1 v5 (0 + (i - 0)) ([] ++ ((o.drop 0).take (i - 0)).map kI)) (star (pt w5.heap.size (.cells #[.int .i64 x1] 3 (0, 0))) (star (Row 3 1 (.slice va i vk) i (o.map kI)) emp))) (by ac_rfl)))
          have e3 : ([] : List Value) ++ ((o.drop 0).take (i - 0)).map kI ++ [x1].map kI ++ ((o.drop i).take (i - i)).map kI = (o.take i ++ x1 :: o.drop i).map kI := by
            have : (o.drop i).take (i - i) = o.drop i := List.take_of_length_le (by have := HOL.out; simp; omega)
            rw [this]; simp
          have e4 : 0 + (i - 0) + 1 + (i - i) = i + 1 := by omega
          refine ⟨⟨i + 1, o.take i ++ x1 :: o.drop i, hin, by go_num, HR2, by have := HOL.out; simp; omega, ?_⟩, by simp [intOf]; omega⟩
          rw [← e3, ← e4]
          exact (h9.eq (B := star (star (pt w5.heap.size (.cells #[.int .i64 x1] 3 (0, 0))) (Row 3 1 (.slice va i vk) i (o.map kI))) (star (Row 3 1 v9 (0 + (i - 0) + 1 + (i - i)) ([] ++ ((o.drop 0).take (i - 0)).map kI ++ [x1].map kI ++ ((o.drop i).take (i - i)).map kI)) emp)) (by ac_rfl)).right
    · obtain rfl : n = i := by omega
      have e1 : l.take n = l := List.take_of_length_le (by rw [HN.out]; exact Nat.le_refl _)
      rw [e1] at HRI
      have HSF : Hid (St w wr (Row 3 1 (.slice va n vk) n ((sortI (l.map (·.1))).map kI))) := Lib.hid (by rw [← HRI.out.sort]; rw [star_emp] at hS; exact hS)
      clear hS e1
      go_wp2
      go_ret
      exact ⟨va, vk, rfl, St.comp HH.out HSF.out⟩
end Go.Proofs.YtdobgebdlbckoaaGreatDoor.BkQ4
namespace Go.Proofs.YtdobgebdlbckoaaGreatDoor.BkQ5
open Go Go.RowKit Go.Proofs Go.Proofs.YtdobgebdlbckoaaGreatDoor.Sep Go.Proofs.YtdobgebdlbckoaaGreatDoor.Reg Go.Proofs.YtdobgebdlbckoaaGreatDoor.Frame Go.Proofs.YtdobgebdlbckoaaGreatDoor.Slc Go.Proofs.YtdobgebdlbckoaaGreatDoor.Held Go.Proofs.YtdobgebdlbckoaaGreatDoor.Mp Go.Proofs.YtdobgebdlbckoaaGreatDoor.WdP Go.Proofs.YtdobgebdlbckoaaGreatDoor.TpP Go.Proofs.YtdobgebdlbckoaaGreatDoor.TpA Go.Proofs.YtdobgebdlbckoaaGreatDoor.TpI Go.Proofs.YtdobgebdlbckoaaGreatDoor.TpL Go.Proofs.YtdobgebdlbckoaaGreatDoor.TpR Go.Proofs.YtdobgebdlbckoaaGreatDoor.BkP Go.Proofs.YtdobgebdlbckoaaGreatDoor.BkA Go.Proofs.YtdobgebdlbckoaaGreatDoor.BkB Go.Proofs.YtdobgebdlbckoaaGreatDoor.BkLp Go.Proofs.YtdobgebdlbckoaaGreatDoor.BkU Go.Proofs.YtdobgebdlbckoaaGreatDoor.BkPp Go.Proofs.YtdobgebdlbckoaaGreatDoor.BkQ Go.Proofs.YtdobgebdlbckoaaGreatDoor.BkQ2 Go.Proofs.YtdobgebdlbckoaaGreatDoor.BkQ3 Go.Proofs.YtdobgebdlbckoaaGreatDoor.BkQ4

def zO : Value := .agg #[.int .i64 0, .int .i64 0, .string ByteArray.empty]
theorem infoO : (Tryz.prog.info? 50).map (fun i => (i.zero, i.size, i.bytes)) = some (some zO, 3, 32) := by kernel_rfl
theorem one_rowW {W w : World} {R : Asn} (h : St W w R) (x : Ot) : St W (w.alloc (.cells #[.int .i64 x.1, .int .i64 x.2.1, .string ⟨x.2.2.toArray⟩] 50 (0, 0))) (star (Row 50 3 (.slice (some ⟨w.heap.size, 0, none⟩) 1 1) 1 (outsV [x])) R) :=
  St.mkRow (h.alloc _) (Nat.le_refl _) (by unfold maxLen; omega) rfl rfl
def EPst (W : World) (p : Nat) (r : List Ot × BS) (R : Asn) (e : Ending) (w' : World) : Prop :=
  ∃ a n c, e = .returned (.slice a n c) ∧ r.1.length = n ∧ St W w' (star (Row 50 3 (.slice a n c) n (outsV r.1)) (star (IsW p r.2) R))
theorem EPst.nil {W w' : World} {p : Nat} {r : List Ot × BS} {R : Asn} {e : Ending} {b : BS} (h : r = ([], b)) (he : e = .returned (.slice none 0 0)) (hS : St W w' (star (IsW p b) R)) : EPst W p r R e w' := by
  subst h; exact ⟨none, 0, 0, he, rfl, hS.nilRow⟩
theorem EPst.mk {W w' : World} {p : Nat} {r : List Ot × BS} {R : Asn} {e : Ending} {b : BS} {o : List Ot} {a : Option Addr} {n c : Nat} (h : r = (o, b)) (hn : o.length = n) (he : e = .returned (.slice a n c)) (hS : St W w' (star (Row 50 3 (.slice a n c) n (outsV o)) (star (IsW p b) R))) : EPst W p r R e w' := by
  subst h; exact ⟨a, n, c, he, hn, hS⟩
theorem err1 : errT 1 = [69, 82, 82, 32, 49] := by
  have h : Lib.decDigits 1 = [49] := by simp [Lib.decDigits]
  unfold errT faultW
  rw [if_pos (by unfold may; simp)]
  simp [h, wERR]
theorem err2 : errT 2 = [69, 82, 82, 32, 50] := by
  have h : Lib.decDigits 2 = [50] := by simp [Lib.decDigits]
  unfold errT faultW
  rw [if_pos (by unfold may; simp)]
  simp [h, wERR]
theorem err3 : errT 3 = [69, 82, 82, 32, 51] := by
  have h : Lib.decDigits 3 = [51] := by simp [Lib.decDigits]
  unfold errT faultW
  rw [if_pos (by unfold may; simp)]
  simp [h, wERR]
theorem msV_set : ∀ (l : Pub) (q : Nat) (id : Int) (n0 n1 : Nat), l[q]? = some (id, n0) → (msV l).set (q * 2 + 1) (.int .i64 (n1 : Nat)) = msV (l.set q (id, n1))
  | [], q, id, n0, n1, h => by simp at h
  | x :: l, 0, id, n0, n1, h => by simp at h; subst h; rfl
  | x :: l, q + 1, id, n0, n1, h => by
    have ih := msV_set l q id n0 n1 (by simpa using h)
    have e : (q + 1) * 2 + 1 = (q * 2 + 1) + 2 := by omega
    rw [e]
    have e1 : msV (x :: l) = .int .i64 x.1 :: .int .i64 (x.2 : Nat) :: msV l := rfl
    have e2 : msV ((x :: l).set (q + 1) (id, n1)) = .int .i64 x.1 :: .int .i64 (x.2 : Nat) :: msV (l.set q (id, n1)) := rfl
    rw [e1, e2, ← ih, List.set_cons_succ, List.set_cons_succ]
def tr21 : Tr := .plain 0 (.plain 1 (.plain 2 (.held 3 (.plain 4 (.plain 5 (.plain 6 (.plain 7 (.held 8 (.plain 9 (.plain 10 (.plain 11 (.held 12 (.plain 13 (.plain 14 (.plain 15 (.one 16 (.done)))))))))))))))))
attribute [local go_sem] Oper.semAt_some
set_option maxRecDepth 100000 in
set_option maxHeartbeats 32000000 in
theorem rDo_any {W w : World} {R : Asn} (p : Nat) (b : BS) (h : St W w (star (IsW p b) R)) {mx : Nat} (hI : Inv b mx) (hmx : mx ≤ 100000) (hkn : KN b) (id op : Int) (s : Tx) (hs : s.length ≤ 1000) :
    Calls Tryz.prog 20 #[.pointer (some ⟨p, 0, none⟩), .int .i64 id, .int .i64 op, kS s] w (EPst W p (doB b id op s) R) := by
  have hb1 : b.1.length ≤ 100000 := Nat.le_trans hI.ok.few hmx
  have hb2 : b.2.length ≤ 100000 := Nat.le_trans hI.ok.prs hmx
  obtain ⟨la, lc, pa, pc, h1⟩ := St.isW h
  have HAt := Lib.hid (rAt_any p b h (by omega) id _ rfl)
  obtain ⟨r, hr⟩ : ∃ r, doB b id op s = r := ⟨_, rfl⟩
  rw [hr]
  have HR := Lib.hid hr
  have HI := Lib.hid hI
  have HKN := Lib.hid hkn
  cases hm : isM b id with
  | false =>
    have hq := atM_out hm
    rw [hq] at HAt
    have HE : Hid (r = ([], b)) := Lib.hid (by rw [← HR.out]; unfold doB; rw [hm]; rfl)
    have HH := Lib.hid h
    clear hm h1 hq h hr hI hkn
    go_enter Tryz.func20, Tryz.ntmps20
    go_wp2_with fail
    refine HAt.out.mono ?_
    rintro e w1 hq1
    have h2 := HH.out.makes hq1
    obtain ⟨rfl, -⟩ := hq1
    go_wp2
    go_ret
    exact EPst.nil HE.out rfl h2
  | true =>
    obtain ⟨q, n0, hqn, hqx, hqa, hqg⟩ := atM_mem HKN.out hm
    rw [hqa] at HAt
    have HR2 : Hid (r = match parseW s with
      | none => ([(id, 1, errT 1)], b)
      | some c => if c.1 = 1 then subB b id c.2.1 else if c.1 = 2 then unsubB b id c.2.1 else pubB b id op c.2.1 c.2.2) := Lib.hid (by rw [← HR.out]; unfold doB; rw [hm]; rfl)
    have HND := Lib.hid hI.nd
    have hn0 : n0 ≤ 100000 := Nat.le_trans (hI.ok.ids _ (List.mem_of_getElem? hqx)).2.2 hmx
    obtain ⟨l, ps⟩ := b
    dsimp only at h1 hqn hqx HND hb1 hb2 hqg
    have HQX := Lib.hid hqx
    have HQG := Lib.hid hqg
    clear hm hqa hqg hqx HR hr h hI hkn
    obtain ⟨n, hn⟩ : ∃ n, l.length = n := ⟨_, rfl⟩
    obtain ⟨m, hm⟩ : ∃ m, ps.length = m := ⟨_, rfl⟩
    rw [hn, hm] at h1
    rw [hn] at hb1 hqn
    rw [hm] at hb2
    have HN := Lib.hid hn
    have HM := Lib.hid hm
    clear hn hm
    have hge0 : decide (((q : Nat) : Int) < 0) = false := decide_eq_false (by omega)
    cases hp : parseW s with
    | none =>
      have HE : Hid (r = ([(id, 1, [69, 82, 82, 32, 49])], (l, ps))) := Lib.hid (by rw [HR2.out, hp, err1])
      have HP := Lib.hid fun w => WdE.rParse_any s (.tuple #[.int .i64 0, .string ⟨#[]⟩, .string ⟨#[]⟩]) (by rw [hp]; rfl) w (by omega)
      have HHe := Lib.hid fun w hsl => rHears_any pa m pc ps HM.out (by omega) [] id (atZ ps [] id) rfl w hsl
      clear HR2 hp
      generalize atZ ps [] id = z at *
      go_enter Tryz.func20, Tryz.ntmps20
      go_wp2_with fail
      refine HAt.out.mono ?_
      rintro e w1 hq1
      have h1 := h1.makes hq1
      obtain ⟨rfl, -⟩ := hq1
      go_wp2_with fail
      refine (HP.out _).mono ?_
      rintro e w2 hq2
      have h2 := h1.quiet hq2
      obtain ⟨rfl, -⟩ := hq2
      have c1 := h2.cell 1 (v := .slice pa m pc) rfl
      clear h1 HAt HP
      go_wp2_with fail
      refine (HHe.out _ h2.right.right.rowSl).mono ?_
      rintro e w3 hq3
      have h3 := h2.makes hq3
      obtain ⟨rfl, -⟩ := hq3
      clear h2 c1 HHe
      have h4 := one_rowW (St.toWn (b := (l, ps)) HN.out HM.out h3) (id, 1, [69, 82, 82, 32, 49])
      go_wp2
      go_ret
      exact EPst.mk HE.out rfl rfl h4
    | some c =>
      have hpl := BkD.parse_le hp
      obtain ⟨k, t, d⟩ := c
      dsimp only at hpl
      obtain ⟨hl1, hl2, -, hk⟩ := hpl
      have HE1 : Hid (r = if k = 1 then subB (l, ps) id t else if k = 2 then unsubB (l, ps) id t else pubB (l, ps) id op t d) := Lib.hid (by rw [HR2.out, hp])
      have HP := Lib.hid fun w => WdE.rParse_any s (.tuple #[.int .i64 (k : Nat), .string ⟨t.toArray⟩, .string ⟨d.toArray⟩]) (by rw [hp]; rfl) w (by omega)
      obtain ⟨z, hz⟩ : ∃ z, atZ ps t id = z := ⟨_, rfl⟩
      have HHe := Lib.hid fun w hsl => rHears_any pa m pc ps HM.out (by omega) t id z hz w hsl
      have HZ := Lib.hid hz
      clear HR2 hp hz
      rcases hk with rfl | rfl | rfl
      · have HE2 : Hid (r = subB (l, ps) id t) := Lib.hid (by rw [HE1.out]; rfl)
        clear HE1
        by_cases hin : (t, id) ∈ ps
        · obtain ⟨q2, -, hq2, -⟩ := atZ_mem HND.out hin
          have hzq : z = (q2 : Nat) := by rw [← HZ.out, hq2]
          subst hzq
          have HE : Hid (r = ([], (l, ps))) := Lib.hid (by rw [HE2.out]; unfold subB; rw [if_neg (fun h => h.1 hin)]; unfold addQ; rw [if_pos hin])
          have hd : decide ((0 : Int) ≤ (q2 : Nat)) = true := decide_eq_true (by omega)
          clear hin hq2 HE2
          go_enter Tryz.func20, Tryz.ntmps20
          go_wp2_with fail
          refine HAt.out.mono ?_
          rintro e w1 hq1
          have h1 := h1.makes hq1
          obtain ⟨rfl, -⟩ := hq1
          go_wp2_with fail
          refine (HP.out _).mono ?_
          rintro e w2 hq2
          have h2 := h1.quiet hq2
          obtain ⟨rfl, -⟩ := hq2
          have c1 := h2.cell 1 (v := .slice pa m pc) rfl
          clear h1 HAt HP
          go_wp2_with fail
          refine (HHe.out _ h2.right.right.rowSl).mono ?_
          rintro e w3 hq3
          have h3 := h2.makes hq3
          obtain ⟨rfl, -⟩ := hq3
          clear h2 c1 HHe
          have h4 := St.toWn (b := (l, ps)) HN.out HM.out h3
          go_wp2
          go_ret
          exact EPst.nil HE.out rfl h4
        · have hzq : z = -1 := by rw [← HZ.out, atZ_not hin]
          subst hzq
          by_cases h8 : 8 ≤ (byP ps id).length
          · have HE : Hid (r = ([(id, 1, [69, 82, 82, 32, 50])], (l, ps))) := Lib.hid (by rw [HE2.out]; unfold subB; rw [if_pos ⟨hin, h8⟩, err2])
            have hd8 : decide ((8 : Int) ≤ ((byP ps id).length : Nat)) = true := decide_eq_true (by omega)
            clear hin h8 HE2
            go_enter Tryz.func20, Tryz.ntmps20
            go_wp2_with fail
            refine HAt.out.mono ?_
            rintro e w1 hq1
            have h1 := h1.makes hq1
            obtain ⟨rfl, -⟩ := hq1
            go_wp2_with fail
            refine (HP.out _).mono ?_
            rintro e w2 hq2
            have h2 := h1.quiet hq2
            obtain ⟨rfl, -⟩ := hq2
            have c1 := h2.cell 1 (v := .slice pa m pc) rfl
            clear h1 HAt HP
            go_wp2_with fail
            refine (HHe.out _ h2.right.right.rowSl).mono ?_
            rintro e w3 hq3
            have h3 := h2.makes hq3
            obtain ⟨rfl, -⟩ := hq3
            clear h2 c1 HHe
            have c1 := h3.cell 1 (v := .slice pa m pc) rfl
            have HB := Lib.hid (rBy_any pa m pc ps HM.out (by omega) id h3 h3.right.right.rowSl)
            go_wp2_with fail
            refine HB.out.mono ?_
            rintro e w4 ⟨ya, yc, rfl, h4⟩
            clear h3 HB c1
            have h3 := h4.right
            clear h4
            have h4 := one_rowW (St.toWn (b := (l, ps)) HN.out HM.out h3) (id, 1, [69, 82, 82, 32, 50])
            go_wp2
            go_ret
            exact EPst.mk HE.out rfl rfl h4
          · have HE : Hid (r = ([], (l, ps ++ [(t, id)]))) := Lib.hid (by rw [HE2.out]; unfold subB; rw [if_neg (fun h => h8 h.2)]; unfold addQ; rw [if_neg hin])
            have hd8 : decide ((8 : Int) ≤ ((byP ps id).length : Nat)) = false := decide_eq_false (by omega)
            obtain ⟨j0, hj0, hy0, hy1, hy2⟩ := info_parts infoP
            have UP := Tryz.underlying45
            clear hin h8 HE2
            go_enter Tryz.func20, Tryz.ntmps20
            go_wp2_with fail
            refine HAt.out.mono ?_
            rintro e w1 hq1
            have h1 := h1.makes hq1
            obtain ⟨rfl, -⟩ := hq1
            go_wp2_with fail
            refine (HP.out _).mono ?_
            rintro e w2 hq2
            have h2 := h1.quiet hq2
            obtain ⟨rfl, -⟩ := hq2
            have c1 := h2.cell 1 (v := .slice pa m pc) rfl
            clear h1 HAt HP
            go_wp2_with fail
            refine (HHe.out _ h2.right.right.rowSl).mono ?_
            rintro e w3 hq3
            have h3 := h2.makes hq3
            obtain ⟨rfl, -⟩ := hq3
            clear h2 c1 HHe
            have c1 := h3.cell 1 (v := .slice pa m pc) rfl
            have HB := Lib.hid (rBy_any pa m pc ps HM.out (by omega) id h3 h3.right.right.rowSl)
            go_wp2_with fail
            refine HB.out.mono ?_
            rintro e w4 ⟨ya, yc, rfl, h4⟩
            clear h3 HB c1
            have h3 := h4.right
            clear h4
            have h5 := h3.alloc (.cells #[] 83)
            have h6 := St.mkRow (size := 2) (n := 0) (cap := 0) (xs := []) h5 (Nat.le_refl _) (Nat.zero_le _) rfl rfl
            have c1 := h6.right.cell 1 (v := .slice pa m pc) rfl
            have hA := h6.right.right.right.rowSl
            clear h5
            go_wp2_with (at_builtin; first
              | (refine wpList_append_Sl rfl (.tmp 64) (.tmp 68) 45 rfl 83 j0 zP 2 24 UP hj0 hy0 hy1 hy2 rfl _ (0 + m) ([] ++ psV ps) rfl h8 _ 1 (psV [(t, id)]) rfl hone (psV_one _) (by unfold maxLen; omega) (by omega) ?_; intro v9 w9 h9 _; obtain ⟨_, a9, c9, rfl, _⟩ := _root_.id h9.rowSl; have h10 := h9.eq (B := star (pt p (.cells #[.slice la n lc, .slice pa m pc] 47 (0, 0))) (star (Row 52 2 (.slice la n lc) n (msV l)) (star (Row 83 2 (.slice a9 (0 + m + 1) c9) (0 + m + 1) ([] ++ psV ps ++ psV [(t, id)])) (star R (star (pt w7.heap.size (.cells #[.string ⟨t.toArray⟩, .int .i64 id] 83 (0, 0))) (Row 83 2 (.slice pa m pc) m (psV ps))))))) (by ac_rfl); have f10 := h10.free 1; have d10 := h10.cell 1 (v := .slice pa m pc) rfl; have hfin := Lib.hid (h10.setCell 1 (.slice a9 (0 + m + 1) c9)))
              | (refine wpList_append_Sl rfl (.tmp 59) (.tmp 63) 45 rfl 83 j0 zP 2 24 UP hj0 hy0 hy1 hy2 rfl _ 0 [] rfl h6 _ m (psV ps) rfl hA (psV_one _) (by unfold maxLen; omega) (by omega) ?_; intro v7 w7 h7 _; have h7a := h7.alloc (.cells #[.string ⟨t.toArray⟩, .int .i64 id] 83); have hone := litP (l := [(t, id)]) rfl (by simp) h7a; have h8 := h7a.swap))
            go_ret
            have e3 : ([] : List Value) ++ psV ps ++ psV [(t, id)] = psV (ps ++ [(t, id)]) := by rw [List.nil_append, psV_append]
            have e4 : (ps ++ [(t, id)]).length = m + 1 := by have := HM.out; simp; omega
            have h11 := hfin.out
            rw [e3, Nat.zero_add] at h11
            exact EPst.nil HE.out rfl (St.toWn (b := (l, ps ++ [(t, id)])) HN.out e4 ((h11.eq (B := star (star (pt w7.heap.size (.cells #[.string ⟨t.toArray⟩, .int .i64 id] 83 (0, 0))) (Row 83 2 (.slice pa m pc) m (psV ps))) (star (pt p (.cells #[.slice la n lc, .slice a9 (m + 1) c9] 47 (0, 0))) (star (Row 52 2 (.slice la n lc) n (msV l)) (star (Row 83 2 (.slice a9 (m + 1) c9) (m + 1) (psV (ps ++ [(t, id)]))) R)))) (by show star (pt p (.cells #[_, _] _ _)) _ = _; ac_rfl)).right))
      · have HE2 : Hid (r = unsubB (l, ps) id t) := Lib.hid (by rw [HE1.out]; rfl)
        clear HE1
        by_cases hin : (t, id) ∈ ps
        · obtain ⟨q2, hqm, hq2, hqd⟩ := atZ_mem HND.out hin
          have hzq : z = (q2 : Nat) := by rw [← HZ.out, hq2]
          subst hzq
          have HE : Hid (r = ([], (l, ps.take q2 ++ ps.drop (q2 + 1)))) := Lib.hid (by rw [HE2.out]; unfold unsubB; rw [if_pos hin, hqd])
          have hd : decide (((q2 : Nat) : Int) < 0) = false := decide_eq_false (by omega)
          rw [HM.out] at hqm
          clear hin hq2 HE2 hqd
          go_enter Tryz.func20, Tryz.ntmps20
          go_wp2_with fail
          refine HAt.out.mono ?_
          rintro e w1 hq1
          have h1 := h1.makes hq1
          obtain ⟨rfl, -⟩ := hq1
          go_wp2_with fail
          refine (HP.out _).mono ?_
          rintro e w2 hq2
          have h2 := h1.quiet hq2
          obtain ⟨rfl, -⟩ := hq2
          have c1 := h2.cell 1 (v := .slice pa m pc) rfl
          clear h1 HAt HP
          go_wp2_with fail
          refine (HHe.out _ h2.right.right.rowSl).mono ?_
          rintro e w3 hq3
          have h3 := h2.makes hq3
          obtain ⟨rfl, -⟩ := hq3
          clear h2 c1 HHe
          have c1 := h3.cell 1 (v := .slice pa m pc) rfl
          have h4 := h3.eq (B := star (Row 83 2 (.slice pa m pc) m (psV ps)) (star (pt p (.cells #[.slice la n lc, .slice pa m pc] 47 (0, 0))) (star (Row 52 2 (.slice la n lc) n (msV l)) R))) (by ac_rfl)
          have HD := Lib.hid (rDrop_any (.slice pa m pc) ps m HM.out (by omega) q2 hqm h4)
          have HL2 : Hid ((ps.take q2 ++ ps.drop (q2 + 1)).length = m - 1) := Lib.hid (by have := HM.out; simp; omega)
          generalize ps.take q2 ++ ps.drop (q2 + 1) = ps2 at *
          clear h3 h4
          go_wp2_with fail
          refine HD.out.mono ?_
          rintro e w4 ⟨v5, rfl, h5⟩
          obtain ⟨_, a5, c5, rfl, _⟩ := _root_.id h5.rowSl
          have h6 := h5.eq (B := star (pt p (.cells #[.slice la n lc, .slice pa m pc] 47 (0, 0))) (star (Row 52 2 (.slice la n lc) n (msV l)) (star (Row 83 2 (.slice a5 (m - 1) c5) (m - 1) (psV ps2)) (star R (Row 83 2 (.slice pa m pc) m (psV ps)))))) (by ac_rfl)
          have f6 := h6.free 1
          have d6 := h6.cell 1 (v := .slice pa m pc) rfl
          have h7 := h6.setCell 1 (.slice a5 (m - 1) c5)
          have h7 : St W _ (star (pt p (.cells #[.slice la n lc, .slice a5 (m - 1) c5] 47 (0, 0))) (star (Row 52 2 (.slice la n lc) n (msV l)) (star (Row 83 2 (.slice a5 (m - 1) c5) (m - 1) (psV ps2)) (star R (Row 83 2 (.slice pa m pc) m (psV ps)))))) := h7
          have HF := Lib.hid (St.toWn (b := (l, ps2)) HN.out HL2.out h7)
          clear HD h5 h6 h7 c1
          go_wp2
          go_ret
          exact EPst.nil HE.out rfl ((HF.out.eq (B := star (Row 83 2 (.slice pa m pc) m (psV ps)) (star (IsW p (l, ps2)) R)) (by ac_rfl)).right)
        · have hzq : z = -1 := by rw [← HZ.out, atZ_not hin]
          subst hzq
          have HE : Hid (r = ([(id, 1, [69, 82, 82, 32, 51])], (l, ps))) := Lib.hid (by rw [HE2.out]; unfold unsubB; rw [if_neg hin, err3])
          clear hin HE2
          go_enter Tryz.func20, Tryz.ntmps20
          go_wp2_with fail
          refine HAt.out.mono ?_
          rintro e w1 hq1
          have h1 := h1.makes hq1
          obtain ⟨rfl, -⟩ := hq1
          go_wp2_with fail
          refine (HP.out _).mono ?_
          rintro e w2 hq2
          have h2 := h1.quiet hq2
          obtain ⟨rfl, -⟩ := hq2
          have c1 := h2.cell 1 (v := .slice pa m pc) rfl
          clear h1 HAt HP
          go_wp2_with fail
          refine (HHe.out _ h2.right.right.rowSl).mono ?_
          rintro e w3 hq3
          have h3 := h2.makes hq3
          obtain ⟨rfl, -⟩ := hq3
          clear h2 c1 HHe
          have h4 := one_rowW (St.toWn (b := (l, ps)) HN.out HM.out h3) (id, 1, [69, 82, 82, 32, 51])
          go_wp2
          go_ret
          exact EPst.mk HE.out rfl rfl h4
      · have hgd : (getM id l).getD 0 = n0 := by rw [HQG.out]; rfl
        obtain ⟨n1, hn1⟩ : ∃ n1, n0 + 1 = n1 := ⟨_, rfl⟩
        obtain ⟨TX, hTX⟩ : ∃ TX, tellT t id n1 d = TX := ⟨_, rfl⟩
        have HE : Hid (r = ((ofP ps t).map fun k => (k, op, TX), (l.set q (id, n1), ps))) := Lib.hid (by
          rw [HE1.out, if_neg (by decide), if_neg (by decide)]
          unfold pubB
          dsimp only
          rw [hgd, hn1, hTX, put_idx HKN.out HQX.out])
        have hq : WdD.txtV (toldW t id (n1 : Nat) d) = .tuple #[.string ⟨TX.toArray⟩, .bool (toldW t id (n1 : Nat) d).isSome] := by
          rw [← hTX]
          unfold tellT
          cases toldW t id (n1 : Nat) d <;> rfl
        have HT := Lib.hid fun w => WdF.rTold_any t id (n1 : Nat) d _ hq w (by omega) (by omega)
        have HW : Hid (((n0 : Nat) : Int) + 1 = (n1 : Nat) ∧ IntKind.i64.wrap (((n0 : Nat) : Int) + 1) = (n1 : Nat)) := Lib.hid ⟨by omega, by rw [IntKind.wrap_i64]; omega⟩
        have HMS : Hid ((msV l).set (q * 2 + 1) (.int .i64 (n1 : Nat)) = msV (l.set q (id, n1))) := Lib.hid (msV_set l q id n0 n1 HQX.out)
        have HLN : Hid ((l.set q (id, n1)).length = n) := Lib.hid (by rw [List.length_set]; exact HN.out)
        have HML : Hid ((msV l).length = n * 2) := Lib.hid (by rw [msV_length, HN.out])
        have HC1 : Hid ((msV l)[q * 2 + 1]? = some (.int .i64 (n0 : Nat))) := Lib.hid (flatMap_get (E := mE) (size := 2) (fun _ => rfl) l q _ HQX.out 1 (by omega))
        generalize (toldW t id (n1 : Nat) d).isSome = tok at *
        clear hgd hTX hq HE1
        go_enter Tryz.func20, Tryz.ntmps20
        go_wp2_with fail
        refine HAt.out.mono ?_
        rintro e w1 hq1
        have h1 := h1.makes hq1
        obtain ⟨rfl, -⟩ := hq1
        go_wp2_with fail
        refine (HP.out _).mono ?_
        rintro e w2 hq2
        have h2 := h1.quiet hq2
        obtain ⟨rfl, -⟩ := hq2
        have c1 := h2.cell 1 (v := .slice pa m pc) rfl
        clear h1 HAt HP
        go_wp2_with fail
        refine (HHe.out _ h2.right.right.rowSl).mono ?_
        rintro e w3 hq3
        have h3 := h2.makes hq3
        obtain ⟨rfl, -⟩ := hq3
        clear h2 c1 HHe
        obtain ⟨_, hv⟩ := h3.swap.row
        rcases hv with ⟨_, h0, _⟩ | ⟨g, cap, cur, hcc, hnc, hcm, hcs, htk, hg⟩
        · omega
        cases hcc
        have hg := (hg.eq (B := star (pt g (.cells cur 52 (0, 0))) (star (pt p (.cells #[.slice (some ⟨g, 0, none⟩) n lc, .slice pa m pc] 47 (0, 0))) (star (Row 83 2 (.slice pa m pc) m (psV ps)) R))) (by ac_rfl)).drew
        have hcq : cur[q * 2 + 1]? = some (.int .i64 (n0 : Nat)) := by
          have e1 := HC1.out
          rw [← htk, List.getElem?_take, if_pos (by omega)] at e1
          rw [← Array.getElem?_toList]; exact e1
        have c2 := hg.cell (q * 2 + 1) hcq
        have c3 := hg.right.cell 0 (v := .slice (some ⟨g, 0, none⟩) n lc) rfl
        have f2 := hg.free (q * 2 + 1)
        clear h3
        go_wp2_with fail
        refine Go.Proofs.YtdobgebdlbckoaaGreatDoor.Held.wp_region_held (fun w' => w'.cell? ⟨p, 0, none⟩ = some (.slice (some ⟨g, 0, none⟩) n lc) ∧ w'.cell? ⟨g, q * 2 + 1, none⟩ = some (.int .i64 (n0 : Nat))) [16] tr21 (by kernel_rfl) (by kernel_rfl) ⟨c3, c2⟩ ?_
        generalize w3.drew = w4 at *
        unfold tr21
        refine tr_plain (.pointer (some ⟨p, 0, none⟩)) rfl ?_ (by simp only [nthOp, Act.put, List.setIfInBounds_toArray, List.set_cons_succ, List.set_cons_zero]; rfl) ?_
        · exact fun _ => rfl
        refine tr_plain (.pointer (some ⟨p, 0, none⟩)) rfl ?_ (by simp only [nthOp, Act.put, List.setIfInBounds_toArray, List.set_cons_succ, List.set_cons_zero]; rfl) ?_
        · (intro w'; simp only [nthOp]; go_simp)
        refine tr_plain (.pointer (some ⟨p, 0, none⟩)) rfl ?_ (by simp only [nthOp, Act.put, List.setIfInBounds_toArray, List.set_cons_succ, List.set_cons_zero]; rfl) ?_
        · (intro w'; simp only [nthOp]; go_simp)
        refine tr_held (.slice (some ⟨g, 0, none⟩) n lc) rfl ?_ (by simp only [nthOp, Act.put, List.setIfInBounds_toArray, List.set_cons_succ, List.set_cons_zero]; rfl) ?_
        · (rintro w' ⟨hc1, -⟩; simp only [nthOp]; go_simp)
        refine tr_plain (.int .i64 (q : Nat)) rfl ?_ (by simp only [nthOp, Act.put, List.setIfInBounds_toArray, List.set_cons_succ, List.set_cons_zero]; rfl) ?_
        · exact fun _ => rfl
        refine tr_plain (.pointer (some ⟨p, 0, none⟩)) rfl ?_ (by simp only [nthOp, Act.put, List.setIfInBounds_toArray, List.set_cons_succ, List.set_cons_zero]; rfl) ?_
        · exact fun _ => rfl
        refine tr_plain (.pointer (some ⟨p, 0, none⟩)) rfl ?_ (by simp only [nthOp, Act.put, List.setIfInBounds_toArray, List.set_cons_succ, List.set_cons_zero]; rfl) ?_
        · (intro w'; simp only [nthOp]; go_simp)
        refine tr_plain (.pointer (some ⟨p, 0, none⟩)) rfl ?_ (by simp only [nthOp, Act.put, List.setIfInBounds_toArray, List.set_cons_succ, List.set_cons_zero]; rfl) ?_
        · (intro w'; simp only [nthOp]; go_simp)
        refine tr_held (.slice (some ⟨g, 0, none⟩) n lc) rfl ?_ (by simp only [nthOp, Act.put, List.setIfInBounds_toArray, List.set_cons_succ, List.set_cons_zero]; rfl) ?_
        · (rintro w' ⟨hc1, -⟩; simp only [nthOp]; go_simp)
        refine tr_plain (.int .i64 (q : Nat)) rfl ?_ (by simp only [nthOp, Act.put, List.setIfInBounds_toArray, List.set_cons_succ, List.set_cons_zero]; rfl) ?_
        · exact fun _ => rfl
        refine tr_plain (.pointer (some ⟨g, q * 2, none⟩)) rfl ?_ (by simp only [nthOp, Act.put, List.setIfInBounds_toArray, List.set_cons_succ, List.set_cons_zero]; rfl) ?_
        · (intro w'; simp only [nthOp]; go_simp)
        refine tr_plain (.pointer (some ⟨g, q * 2 + 1, none⟩)) rfl ?_ (by simp only [nthOp, Act.put, List.setIfInBounds_toArray, List.set_cons_succ, List.set_cons_zero]; rfl) ?_
        · (intro w'; simp only [nthOp]; go_simp)
        refine tr_held (.int .i64 (n0 : Nat)) rfl ?_ (by simp only [nthOp, Act.put, List.setIfInBounds_toArray, List.set_cons_succ, List.set_cons_zero]; rfl) ?_
        · (rintro w' ⟨-, hc1⟩; simp only [nthOp]; go_simp)
        refine tr_plain (.int .i64 (n1 : Nat)) rfl ?_ (by simp only [nthOp, Act.put, List.setIfInBounds_toArray, List.set_cons_succ, List.set_cons_zero]; rfl) ?_
        · (intro w'; simp only [nthOp]; go_simp; exact HW.out.2)
        refine tr_plain (.pointer (some ⟨g, q * 2, none⟩)) rfl ?_ (by simp only [nthOp, Act.put, List.setIfInBounds_toArray, List.set_cons_succ, List.set_cons_zero]; rfl) ?_
        · (intro w'; simp only [nthOp]; go_simp)
        refine tr_plain (.pointer (some ⟨g, q * 2 + 1, none⟩)) rfl ?_ (by simp only [nthOp, Act.put, List.setIfInBounds_toArray, List.set_cons_succ, List.set_cons_zero]; rfl) ?_
        · (intro w'; simp only [nthOp]; go_simp)
        have h4 := hg.setCell (q * 2 + 1) (.int .i64 (n1 : Nat))
        have h5 := St.mkRow (size := 2) (n := n) (cap := lc) (xs := msV (l.set q (id, n1))) h4 hnc hcm (by simpa using hcs) (by rw [Array.toList_setIfInBounds, List.take_set, htk]; exact HMS.out)
        have c5 := h4.cell (q * 2 + 1) (v := .int .i64 (n1 : Nat)) (by
          have := (Array.getElem?_eq_some_iff.1 hcq).1
          simp [this])
        have c6 := h4.right.cell 0 (v := .slice (some ⟨g, 0, none⟩) n lc) rfl
        refine tr_one ?_
        simp only [nthOp]
        go_wp2_with fail
        simp only [Reg.Next]
        refine ⟨fun h => absurd h (by decide), tr_done ?_⟩
        clear c2 c3 f2 h4 hg
        generalize w4.setCell ⟨g, q * 2 + 1, none⟩ (.int .i64 (n1 : Nat)) = w5 at *
        go_wp2_with fail
        refine (HT.out _).mono ?_
        rintro e w6 hq6
        have h6 := h5.makes hq6
        obtain ⟨rfl, -⟩ := hq6
        clear h5 c5 c6 HT
        have c7 := h6.right.cell 1 (v := .slice pa m pc) rfl
        have HO := Lib.hid (rOf_any pa m pc ps HM.out (by omega) t h6 h6.right.right.rowSl)
        go_wp2_with fail
        refine HO.out.mono ?_
        rintro e w7 ⟨oa, oc, rfl, h7⟩
        clear HO h6 c7
        obtain ⟨O, hO⟩ : ∃ O, ofP ps t = O := ⟨_, rfl⟩
        have hol : O.length ≤ m := by rw [← hO, ← HM.out]; exact ofP_le ps t
        rw [hO] at h7 HE
        rw [hO]
        obtain ⟨on, hon⟩ : ∃ on, O.length = on := ⟨_, rfl⟩
        rw [hon] at h7 hol
        rw [hon]
        have HON := Lib.hid hon
        obtain ⟨o0, ho0, hx0, hx1, hx2⟩ := info_parts infoO
        have UO := Tryz.underlying48
        obtain ⟨L2, hL2⟩ : ∃ L2, l.set q (id, n1) = L2 := ⟨_, rfl⟩
        rw [hL2] at h7 HE HLN
        clear hO hon hL2
        have h8 : St W w7 (star (Row 3 1 (.slice oa on oc) on (O.map kI)) (star (IsW p (L2, ps)) R)) := by
          have := St.toWn (b := (L2, ps)) (R := star (Row 3 1 (.slice oa on oc) on (O.map kI)) R) HLN.out HM.out (h7.eq (by ac_rfl))
          exact this.swap
        clear h7
        go_wp2_with fail
        go_loopw [17, 18] (fun ov iv wr => ∃ i : Nat, i ≤ on ∧ iv = .int .i64 i ∧ St W wr (star (Row 50 3 ov i (outsV ((O.take i).map fun k => (k, op, TX)))) (star (Row 3 1 (.slice oa on oc) on (O.map kI)) (star (IsW p (L2, ps)) R)))) (fun _ iv _ => on - (intOf iv).toNat)
        case atStart => exact ⟨0, Nat.zero_le _, rfl, h8.nilRow⟩
        case round =>
          obtain ⟨i, hi, rfl, hS⟩ := hrel
          obtain ⟨_, va, vk, rfl, _⟩ := _root_.id hS.rowSl
          clear h8
          by_cases hin : i < on
          · obtain ⟨x, hx⟩ : ∃ x, O[i]? = some x := ⟨_, List.getElem?_eq_getElem (by rw [HON.out]; exact hin)⟩
            obtain ⟨ab, ao, rfl, hel⟩ := elJ hS.right.rowSl hx
            have c1 := hel _ _ (St.start wr)
            have hinI : (i : Int) < on := by omega
            have HX : Hid ((O.take (i + 1)).map (fun k => (k, op, TX)) = (O.take i).map (fun k => (k, op, TX)) ++ [(x, op, TX)]) := Lib.hid (by rw [List.take_add_one, hx]; simp)
            clear hx hel
            have h2 := one_rowW hS (x, op, TX)
            have hone := h2.rowSl
            have h3 := h2.swap
            clear h2
            go_wp2_with (at_builtin; refine wpList_append_Sl rfl (.tmp 131) (.tmp 139) 48 rfl 50 o0 zO 3 32 UO ho0 hx0 hx1 hx2 rfl _ i _ rfl h3 _ 1 (outsV [(x, op, TX)]) rfl hone (outsV_one _) (by unfold maxLen; omega) (by omega) ?_; intro v9 w10 hS9 hv9)
            refine ⟨⟨i + 1, hin, by go_num, ?_⟩, by simp [intOf]; omega⟩
            rw [HX.out, outsV_append]
            exact hS9.swap.right
          · obtain rfl : on = i := by omega
            have e1 : O.take on = O := List.take_of_length_le (by rw [HON.out]; exact Nat.le_refl _)
            rw [e1] at hS
            have HF := Lib.hid (hS.swap.right)
            clear hS e1
            go_wp2
            go_ret
            exact EPst.mk HE.out (by rw [List.length_map]; exact HON.out) rfl HF.out
end Go.Proofs.YtdobgebdlbckoaaGreatDoor.BkQ5
namespace Go.Proofs.YtdobgebdlbckoaaGreatDoor.HeldG
open Go Go.Proofs.YtdobgebdlbckoaaGreatDoor.Reg Go.Proofs.YtdobgebdlbckoaaGreatDoor.Fork Go.Proofs.YtdobgebdlbckoaaGreatDoor.Held Region

section
variable {P : Program} {ops : Array Oper} {Q : Exit → Act → World → Prop} {C : World → Prop} {E : List Nat}
def wpTrG (P : Program) (ops : Array Oper) (l : List Oper) (C : World → Prop) (E : List Nat) (Q : Exit → Act → World → Prop) : Tr → Act → World → Prop
  | .done, a, w => Q .normal a w
  | .plain i t, a, w => Region.wanted (nthOp l i) (yielded ops a.tmps) = true ∧ ∃ v, (∀ w', (execOp a.eval (nthOp l i)).run P w' = .ok (.value v) w') ∧ wpTrG P ops l C E Q t (a.put (nthOp l i).dst v) w
  | .held i t, a, w => Region.wanted (nthOp l i) (yielded ops a.tmps) = true ∧ ∃ v, (∀ w', C w' → (execOp a.eval (nthOp l i)).run P w' = .ok (.value v) w') ∧ wpTrG P ops l C E Q t (a.put (nthOp l i).dst v) w
  | .one i t, a, w => wpList P ops (Reg.Next fun a' w' => (E.contains i = false → C w') ∧ wpTrG P ops l C E Q t a' w') [nthOp l i] a w
  | .two i t j u, a, w => wpList P ops (Reg.Next fun a' w' => (E.contains i = false → C w') ∧ wpTrG P ops l C E Q t a' w') [nthOp l i] a w ∧
      wpList P ops (Reg.Next fun a' w' => (E.contains j = false → C w') ∧ wpTrG P ops l C E Q u a' w') [nthOp l j] a w
theorem trG_sound (hs : Region.noSelect ops = true) : ∀ (t : Tr) (n : Nat) (listed : Array Bool) (a : Act) (w : World), trB ops E t listed n = true → (nowC t = true → C w) → wpTrG P ops ops.toList C E Q t a w → wpAnyC P ops C E Q n listed a w
  | .done, n, listed, a, w, hB, _, h => by
    simp only [trB, Bool.and_eq_true, beq_iff_eq] at hB
    obtain ⟨h1, rfl⟩ := hB
    exact ⟨by simpa using h1, h⟩
  | .plain i t, n, listed, a, w, hB, hC, h => by
    simp only [trB, Bool.and_eq_true, bne_iff_ne] at hB
    obtain ⟨⟨⟨⟨hr, hf⟩, hh⟩, hn⟩, hB⟩ := hB
    obtain ⟨m, rfl⟩ : ∃ m, n = m + 1 := ⟨n - 1, by omega⟩
    have hr' : i ∈ Region.ready .any ops listed := by simpa using hr
    obtain ⟨_, o, ho, _⟩ := mem_ready.1 hr'
    have hno : nthOp ops.toList i = o := nthOp_get _ _ _ (by simpa using ho)
    obtain ⟨hg, v, hv, h⟩ := h
    rw [hno] at hg hv h
    exact held_take ho hs (heldFree_spec hh) m listed a w (hC rfl) (fun _ h => h) (fun _ h => .inl h) (Region.free_spec ho hf) hr' (.inl ⟨hg, fun w' _ => hv w'⟩) (trG_sound hs t m _ _ w hB (fun _ => hC rfl) h)
  | .held i t, n, listed, a, w, hB, hC, h => by
    simp only [trB, Bool.and_eq_true, bne_iff_ne] at hB
    obtain ⟨⟨⟨⟨hr, hf⟩, hh⟩, hn⟩, hB⟩ := hB
    obtain ⟨m, rfl⟩ : ∃ m, n = m + 1 := ⟨n - 1, by omega⟩
    have hr' : i ∈ Region.ready .any ops listed := by simpa using hr
    obtain ⟨_, o, ho, _⟩ := mem_ready.1 hr'
    have hno : nthOp ops.toList i = o := nthOp_get _ _ _ (by simpa using ho)
    obtain ⟨hg, v, hv, h⟩ := h
    rw [hno] at hg hv h
    exact held_take ho hs (heldFree_spec hh) m listed a w (hC rfl) (fun _ h => h) (fun _ h => .inl h) (Region.free_spec ho hf) hr' (.inl ⟨hg, hv⟩) (trG_sound hs t m _ _ w hB (fun _ => hC rfl) h)
  | .one i t, n, listed, a, w, hB, _, h => by
    simp only [trB, Bool.and_eq_true, bne_iff_ne, beq_iff_eq] at hB
    obtain ⟨⟨⟨hr, hn⟩, hE⟩, hB⟩ := hB
    obtain ⟨m, rfl⟩ : ∃ m, n = m + 1 := ⟨n - 1, by omega⟩
    have hi : i ∈ Region.ready .any ops listed := by rw [hr]; simp
    obtain ⟨_, o, ho, _⟩ := mem_ready.1 hi
    refine ⟨by rw [hr]; simp, fun j hj => ?_⟩
    rw [hr] at hj
    obtain rfl : j = i := by simpa using hj
    exact wpOp_mono (fun a' w' h' => ⟨h'.1, trG_sound hs t m _ _ w' hB (fun hc => h'.1 (by cases hb : E.contains j with | false => rfl | true => rw [hb, hc] at hE; cases hE)) h'.2⟩) (wpOp_one ho h)
  | .two i t j u, n, listed, a, w, hB, _, h => by
    simp only [trB, Bool.and_eq_true, bne_iff_ne, beq_iff_eq] at hB
    obtain ⟨⟨⟨⟨⟨hr, hn⟩, hE⟩, hE2⟩, hB⟩, hB2⟩ := hB
    obtain ⟨m, rfl⟩ : ∃ m, n = m + 1 := ⟨n - 1, by omega⟩
    refine ⟨by rw [hr]; simp, fun k hk => ?_⟩
    obtain ⟨_, o, ho, _⟩ := mem_ready.1 hk
    rw [hr] at hk
    rcases List.mem_cons.1 hk with rfl | hk
    · exact wpOp_mono (fun a' w' h' => ⟨h'.1, trG_sound hs t m _ _ w' hB (fun hc => h'.1 (by cases hb : E.contains k with | false => rfl | true => rw [hb, hc] at hE; cases hE)) h'.2⟩) (wpOp_one ho h.1)
    · obtain rfl : k = j := by simpa using hk
      exact wpOp_mono (fun a' w' h' => ⟨h'.1, trG_sound hs u m _ _ w' hB2 (fun hc => h'.1 (by cases hb : E.contains k with | false => rfl | true => rw [hb, hc] at hE2; cases hE2)) h'.2⟩) (wpOp_one ho h.2)

theorem trG_plain {l : List Oper} {i : Nat} {t : Tr} {a a' : Act} {w : World} (v : Value) (hg : Region.wanted (nthOp l i) (yielded ops a.tmps) = true) (hv : ∀ w', (execOp a.eval (nthOp l i)).run P w' = .ok (.value v) w') (ha : a.put (nthOp l i).dst v = a')
    (h : wpTrG P ops l C E Q t a' w) : wpTrG P ops l C E Q (.plain i t) a w := ⟨hg, v, hv, ha ▸ h⟩
theorem trG_held {l : List Oper} {i : Nat} {t : Tr} {a a' : Act} {w : World} (v : Value) (hg : Region.wanted (nthOp l i) (yielded ops a.tmps) = true) (hv : ∀ w', C w' → (execOp a.eval (nthOp l i)).run P w' = .ok (.value v) w') (ha : a.put (nthOp l i).dst v = a')
    (h : wpTrG P ops l C E Q t a' w) : wpTrG P ops l C E Q (.held i t) a w := ⟨hg, v, hv, ha ▸ h⟩
theorem trG_one {l : List Oper} {i : Nat} {t : Tr} {a : Act} {w : World} (h : wpList P ops (Reg.Next fun a' w' => (E.contains i = false → C w') ∧ wpTrG P ops l C E Q t a' w') [nthOp l i] a w) : wpTrG P ops l C E Q (.one i t) a w := h
theorem trG_two {l : List Oper} {i j : Nat} {t u : Tr} {a : Act} {w : World} (h : wpList P ops (Reg.Next fun a' w' => (E.contains i = false → C w') ∧ wpTrG P ops l C E Q t a' w') [nthOp l i] a w)
    (h' : wpList P ops (Reg.Next fun a' w' => (E.contains j = false → C w') ∧ wpTrG P ops l C E Q u a' w') [nthOp l j] a w) : wpTrG P ops l C E Q (.two i t j u) a w := ⟨h, h'⟩
theorem trG_done {l : List Oper} {a : Act} {w : World} (h : Q .normal a w) : wpTrG P ops l C E Q .done a w := h
/-- A region that draws its order. -/
theorem wp_region_heldG {id : Nat} {l : List Oper} {a : Act} {w : World} (C : World → Prop) (E : List Nat) (t : Tr) (hm : P.follows .mixedOrders = true)
    (hB : (Region.noSelect l.toArray && trB l.toArray E t (Array.replicate l.toArray.size false) l.toArray.size) = true) (hC : C w.drew)
    (h : wpTrG P l.toArray l C E Q t a w.drew) : (Code.region id l.toArray true).wp P Q a w := by
  simp only [Bool.and_eq_true] at hB
  refine Code.wp_mono Only.imp (wp_region_any hm ?_)
  exact wpAny_of_C _ _ _ _ (trG_sound hB.1 t _ _ a _ hB.2 (fun _ => hC) (by simpa using h))
end
end Go.Proofs.YtdobgebdlbckoaaGreatDoor.HeldG
