import Derived.Test.YtcjlbimmplejjaaGreatDoorScQm
import Derived.Test.YtcjlbimmplejjaaGreatDoorScPi
namespace Go.Proofs.YtcjlbimmplejjaaGreatDoor.ScTr
open Go Go.RowKit Go.Proofs Go.Proofs.YtcjlbimmplejjaaGreatDoor.Sep Go.Proofs.YtcjlbimmplejjaaGreatDoor.Reg Go.Proofs.YtcjlbimmplejjaaGreatDoor.Fork Go.Proofs.YtcjlbimmplejjaaGreatDoor.Held Go.Proofs.YtcjlbimmplejjaaGreatDoor.Frame Go.Proofs.YtcjlbimmplejjaaGreatDoor.Strs Go.Proofs.YtcjlbimmplejjaaGreatDoor.WdP Go.Proofs.YtcjlbimmplejjaaGreatDoor.WdT Go.Proofs.YtcjlbimmplejjaaGreatDoor.ScP Go.Proofs.YtcjlbimmplejjaaGreatDoor.ScQ Go.Proofs.YtcjlbimmplejjaaGreatDoor.ScT Go.Proofs.YtcjlbimmplejjaaGreatDoor.ScB Go.Proofs.YtcjlbimmplejjaaGreatDoor.ScM Go.Proofs.YtcjlbimmplejjaaGreatDoor.ScA Go.Proofs.YtcjlbimmplejjaaGreatDoor.ScR Go.Proofs.YtcjlbimmplejjaaGreatDoor.ScRp Go.Proofs.YtcjlbimmplejjaaGreatDoor.ScPf Go.Proofs.YtcjlbimmplejjaaGreatDoor.ScPg Go.Proofs.YtcjlbimmplejjaaGreatDoor.ScPi Go.Proofs.YtcjlbimmplejjaaGreatDoor.ScRt

/-- A block that stands open, in memory. -/
structure OM where
  v : Value
  pl : PL
  times : Nat
  line : Nat
def oE (o : OM) : List Value := [o.v, .int .i64 (o.times : Nat), .int .i64 (o.line : Nat)]
def oP (o : OM) : Opn := ⟨sms o.pl, o.times, o.line⟩
def rowO (o : OM) : Asn := Row 103 6 o.v o.pl.length (o.pl.flatMap pE)
def RW : List OM → Asn
  | [] => emp
  | o :: r => star (rowO o) (RW r)
theorem RW_append : ∀ (a b : List OM), RW (a ++ b) = star (RW a) (RW b)
  | [], b => by show RW b = star emp (RW b); rw [emp_star]
  | x :: a, b => by
    show star _ (RW (a ++ b)) = star (star _ (RW a)) (RW b)
    rw [RW_append a b]; ac_rfl
theorem RW_one (x : OM) : RW [x] = rowO x := by show star _ emp = _; rw [star_emp]
def stO (os : List OM) : List Opn := (os.map oP).reverse
theorem stO_top (q : List OM) (b : OM) : stO (q ++ [b]) = oP b :: stO q := by simp [stO]
theorem stO_two (q : List OM) (b d : OM) : stO (q ++ [d, b]) = oP b :: oP d :: stO q := by simp [stO]
theorem stO_len (os : List OM) : (stO os).length = os.length := by simp [stO]
/-- What memory holds as parts, whatever stands beside it. -/
def Good (C : Asn) (u : Value) (sub : PL) : Prop := ∀ W w R, St W w (star C R) → RT w u sub
theorem Good.mono {C : Asn} {u : Value} {sub : PL} (h : Good C u sub) (D : Asn) : Good (star D C) u sub := fun W w R hS => h W w (star D R) (hS.eq (by ac_rfl))
def Lnk (C : Asn) (pl : PL) : Prop := ∀ (i n m : Nat) (A : List Ac) (u : Value), pl[i]? = some (Sm.loop n m A, u) → ∃ sub, Good C u sub ∧ manyS (sms sub) = m ∧ actsS (sms sub) = A
theorem Lnk.mono {C : Asn} {pl : PL} (h : Lnk C pl) (D : Asn) : Lnk (star D C) pl := fun i n m A u hi => by
  obtain ⟨sub, h1, h2⟩ := h i n m A u hi
  exact ⟨sub, h1.mono D, h2⟩
theorem Lnk.nil (C : Asn) : Lnk C [] := fun i n m A u hi => by simp at hi
theorem Lnk.act {C : Asn} {pl : PL} (h : Lnk C pl) (x : Ac) (z : Value) : Lnk C (pl ++ [(Sm.act x, z)]) := fun i n m A u hi => by
  by_cases hlt : i < pl.length
  · rw [List.getElem?_append_left hlt] at hi; exact h i n m A u hi
  · rw [List.getElem?_append_right (by omega)] at hi
    cases hk : i - pl.length with
    | zero => rw [hk] at hi; simp at hi
    | succ k => rw [hk] at hi; simp at hi
theorem Lnk.loop {C : Asn} {pl sub : PL} (h : Lnk C pl) {z : Value} (hg : Good C z sub) (t : Nat) : Lnk C (pl ++ [(Sm.loop t (manyS (sms sub)) (actsS (sms sub)), z)]) := fun i n m A u hi => by
  by_cases hlt : i < pl.length
  · rw [List.getElem?_append_left hlt] at hi; exact h i n m A u hi
  · rw [List.getElem?_append_right (by omega)] at hi
    cases hk : i - pl.length with
    | zero =>
      rw [hk] at hi
      simp only [List.getElem?_cons_zero, Option.some.injEq, Prod.mk.injEq, Sm.loop.injEq] at hi
      obtain ⟨⟨rfl, rfl, rfl⟩, rfl⟩ := hi
      exact ⟨sub, hg, rfl, rfl⟩
    | succ k => rw [hk] at hi; simp at hi
def OkP (pl : PL) : Prop := ∀ q ∈ pl, OkS q.1
theorem OkP.snoc {pl : PL} {q : Sm × Value} (h : OkP pl) (hq : OkS q.1) : OkP (pl ++ [q]) := fun z hz => by
  rcases List.mem_append.1 hz with hz | hz
  · exact h z hz
  · simp at hz; rw [hz]; exact hq
theorem lnk_row {C : Asn} {x : OM} (hl : Lnk C x.pl) (hok : OkP x.pl) : Good (star (rowO x) C) x.v x.pl := by
  intro W w R h
  have hs : Sl w 6 x.v x.pl.length (x.pl.flatMap pE) := (h.eq (B := star (rowO x) (star C R)) (by ac_rfl)).rowSl
  have hc := h.eq (B := star C (star (rowO x) R)) (by ac_rfl)
  have key : ∀ i : Nat, ∃ sub, ∀ (n m : Nat) (A : List Ac) (u : Value), x.pl[i]? = some (Sm.loop n m A, u) → Good C u sub ∧ manyS (sms sub) = m ∧ actsS (sms sub) = A := by
    intro i
    cases hi : x.pl[i]? with
    | none => exact ⟨[], fun n m A u h => by cases h⟩
    | some q =>
      obtain ⟨s, u⟩ := q
      cases s with
      | act y => exact ⟨[], fun n m A u h => by cases h⟩
      | loop n m A =>
        obtain ⟨sub, h1, h2, h3⟩ := hl i n m A u hi
        exact ⟨sub, fun n' m' A' u' h => by cases h; exact ⟨h1, h2, h3⟩⟩
  exact .mk (fun i => (key i).choose) hs hok (fun i n m A u hi => ((key i).choose_spec n m A u hi).1 W w _ hc) (fun i n m A u hi => ((key i).choose_spec n m A u hi).2)
theorem line_len {t s : Tx} {i : Nat} (h : (lns t)[i]? = some s) : s.length ≤ t.length := by
  have hm := List.mem_of_getElem? h
  clear h
  induction t generalizing s with
  | nil => simp [lns] at hm; subst hm; simp
  | cons c r ih =>
    obtain ⟨y, ys, hy⟩ := lns_ne r
    rw [hy] at ih
    by_cases hc : c = 10
    · subst hc
      rw [lns_end, hy] at hm
      rcases List.mem_cons.1 hm with rfl | hm
      · simp
      · have := ih hm; simp only [List.length_cons]; omega
    · rw [lns_cons c r y ys hc hy] at hm
      rcases List.mem_cons.1 hm with rfl | hm
      · have := ih (s := y) (by simp); simp only [List.length_cons]; omega
      · have := ih (s := s) (by simp [hm]); simp only [List.length_cons]; omega
theorem words_mem : ∀ (f : Nat) (s : Tx), ∀ x ∈ wordsF f s, x.length ≤ s.length
  | 0, _, x, h => by simp [wordsF] at h
  | f + 1, [], x, h => by simp [wordsF] at h
  | f + 1, c :: r, x, h => by
    unfold wordsF at h
    split at h
    · have := words_mem f r x h; simp only [List.length_cons]; omega
    · split at h
      · simp at h
      · rcases List.mem_cons.1 h with rfl | h
        · rw [List.length_take]; omega
        · have := words_mem f _ x h
          rw [List.length_drop] at this; omega
theorem word_len {s x : Tx} (h : x ∈ wordsR s) : x.length ≤ s.length := words_mem _ s x h
theorem lineR_end_more {st : List Opn} {s w1 : Tx} {r1 : List Tx} {n : Nat} (h : wordsR s = wEnd :: w1 :: r1) : lineR st s n = none := by
  unfold lineR; rw [h]
  simp only
  rw [if_neg (by decide), if_pos trivial]
theorem lineR_end_one {st : List Opn} {s : Tx} {n : Nat} (h : wordsR s = [wEnd]) (hl : st.length = 0 + 1) : lineR st s n = none := by
  unfold lineR; rw [h]
  simp only
  rw [if_neg (by decide), if_pos trivial]
  match st, hl with
  | [x], _ => rfl
theorem lineR_end {q : List Opn} {b c : Opn} {s : Tx} {n : Nat} (h : wordsR s = [wEnd]) : lineR (b :: c :: q) s n = some ({ c with l := c.l ++ [.loop b.times (manyS b.l) (actsS b.l)] } :: q) := by
  unfold lineR; rw [h]
  simp only
  rw [if_neg (by decide), if_pos trivial]
theorem lineR_no {st : List Opn} {s w0 : Tx} {r : List Tx} {n : Nat} (h : wordsR s = w0 :: r) (h1 : w0 ≠ wTimes) (h2 : w0 ≠ wEnd) (h3 : actR (w0 :: r) = none) : lineR st s n = none := by
  unfold lineR; rw [h]
  simp only
  rw [if_neg h1, if_neg h2, h3]
theorem lineR_act {q : List Opn} {b : Opn} {s w0 : Tx} {r : List Tx} {n : Nat} {x : Ac} (h : wordsR s = w0 :: r) (h1 : w0 ≠ wTimes) (h2 : w0 ≠ wEnd) (h3 : actR (w0 :: r) = some x) : lineR (b :: q) s n = some ({ b with l := b.l ++ [.act x] } :: q) := by
  unfold lineR; rw [h]
  simp only
  rw [if_neg h1, if_neg h2, h3]
theorem one_end {st : List Opn} (h : st.length = 0 + 1) {α : Type} {z : α} {f : Opn → Opn → List Opn → α} : (match ([] : List Tx), st with | [], b :: c :: q => f b c q | _, _ => z) = z := by
  match st, h with
  | [x], _ => rfl
theorem last_one {os : List OM} (h : 1 ≤ os.length) : ∃ q b, os = q ++ [b] := ⟨os.dropLast, os.getLast (by rintro rfl; simp at h), (List.dropLast_concat_getLast _).symm⟩
theorem last_two {os : List OM} (h : 2 ≤ os.length) : ∃ q d b, os = q ++ [d, b] := by
  obtain ⟨p, b, rfl⟩ := last_one (os := os) (by omega)
  obtain ⟨q, d, rfl⟩ := last_one (os := p) (by simp at h; omega)
  exact ⟨q, d, b, by simp⟩
theorem pE_one (q : Sm × Value) (h : q.2.oneCell' = true) : ∀ u ∈ pE q, u.oneCell' = true := by
  intro u hu
  unfold pE at hu
  split at hu
  · simp only [List.mem_cons, List.not_mem_nil, or_false] at hu
    rcases hu with rfl | rfl | rfl | rfl | rfl | rfl <;> rfl
  · simp only [List.mem_cons, List.not_mem_nil, or_false] at hu
    rcases hu with rfl | rfl | rfl | rfl | rfl | rfl
    · rfl
    · rfl
    · rfl
    · rfl
    · exact h
    · rfl
structure TI (C : Asn) (os : List OM) (i : Nat) : Prop where
  lnk : ∀ x ∈ os, Lnk C x.pl
  ok : ∀ x ∈ os, OkP x.pl ∧ x.times ≤ 1000 ∧ x.pl.length ≤ i
theorem flat_len3 (q : List OM) : (q.flatMap oE).length = q.length * 3 := by
  induction q with
  | nil => rfl
  | cons x q ih => rw [List.flatMap_cons, List.length_append, ih, List.length_cons]; simp [oE]; omega
theorem oset {q : List OM} {b : OM} {m : Nat} (h : q.length = m) (v : Value) (pl : PL) : ((q ++ [b]).flatMap oE).set (m * 3) v = (q ++ [(⟨v, pl, b.times, b.line⟩ : OM)]).flatMap oE := by
  have hl := flat_len3 q
  rw [h] at hl
  rw [List.flatMap_append, List.flatMap_append, List.set_append_right _ _ (by omega), hl, Nat.sub_self]
  rfl
theorem oat {q r : List OM} {b : OM} {m : Nat} (h : q.length = m) : ((q ++ b :: r).flatMap oE)[m * 3]? = some b.v ∧ ((q ++ b :: r).flatMap oE)[m * 3 + 1]? = some (.int .i64 (b.times : Nat)) ∧ ((q ++ b :: r).flatMap oE)[m * 3 + 2]? = some (.int .i64 (b.line : Nat)) := by
  have hl := flat_len3 q
  rw [h] at hl
  rw [List.flatMap_append]
  refine ⟨?_, ?_, ?_⟩
  · rw [List.getElem?_append_right (by omega), hl, Nat.sub_self]; rfl
  · rw [List.getElem?_append_right (by omega), hl, show m * 3 + 1 - m * 3 = 1 from by omega]; rfl
  · rw [List.getElem?_append_right (by omega), hl, show m * 3 + 2 - m * 3 = 2 from by omega]; rfl
theorem otake {q : List OM} {d b : OM} {m : Nat} (h : q.length + 1 = m) : ((q ++ [d, b]).flatMap oE).take (m * 3) = (q ++ [d]).flatMap oE := by
  have e : q ++ [d, b] = (q ++ [d]) ++ [b] := by simp
  rw [e, List.flatMap_append, List.take_left']
  rw [flat_len3, List.length_append, List.length_singleton, h]
theorem set6 {A : List Value} {k : Nat} (h : A.length = k * 6) (z0 z1 z2 z3 z4 z5 x0 x1 x2 x3 x4 x5 : Value) : ((((((A ++ [z0, z1, z2, z3, z4, z5]).set (k * 6) x0).set (k * 6 + 1) x1).set (k * 6 + 2) x2).set (k * 6 + 3) x3).set (k * 6 + 4) x4).set (k * 6 + 5) x5 = A ++ [x0, x1, x2, x3, x4, x5] := by
  rw [List.set_append_right _ _ (by omega), List.set_append_right _ _ (by omega), List.set_append_right _ _ (by omega), List.set_append_right _ _ (by omega), List.set_append_right _ _ (by omega), List.set_append_right _ _ (by omega), h]
  rw [Nat.sub_self, show k * 6 + 1 - k * 6 = 1 from by omega, show k * 6 + 2 - k * 6 = 2 from by omega, show k * 6 + 3 - k * 6 = 3 from by omega, show k * 6 + 4 - k * 6 = 4 from by omega, show k * 6 + 5 - k * 6 = 5 from by omega]
  rfl
theorem flat_len6 (q : PL) : (q.flatMap pE).length = q.length * 6 := by
  induction q with
  | nil => rfl
  | cons x q ih => rw [List.flatMap_cons, List.length_append, ih, List.length_cons, pE_len]; omega
def zO : Value := .agg #[.slice none 0 0, .int .i64 0, .int .i64 0]
def zP : Value := .agg #[.int .u8 0, .int .i64 0, .int .i64 0, .string ByteArray.empty, .slice none 0 0, .int .i64 0]
theorem infoO : (Tryz.prog.info? 98).map (fun i => (i.zero, i.size, i.bytes)) = some (some zO, 3, 40) := by kernel_rfl
theorem infoP : (Tryz.prog.info? 103).map (fun i => (i.zero, i.size, i.bytes)) = some (some zP, 6, 72) := by kernel_rfl
theorem sizeO : (Tryz.prog.info? 98).map (·.size) = some 3 := by kernel_rfl
def QPst (W : World) (t : Tx) (R : Asn) (e : Ending) (w' : World) : Prop := match goR (lns t) 0 stR with
  | .error n => e = .returned (.tuple #[.slice none 0 0, .int .i64 (n : Nat), .int .i64 8]) ∧ St W w' R
  | .ok [x] => ∃ v pl, e = .returned (.tuple #[v, .int .i64 0, .int .i64 0]) ∧ sms pl = x.l ∧ RT w' v pl ∧ St W w' R
  | .ok (x :: _ :: _) => e = .returned (.tuple #[.slice none 0 0, .int .i64 (x.line : Nat), .int .i64 11]) ∧ St W w' R
  | .ok [] => True
theorem QPst.err {W w' : World} {t : Tx} {R : Asn} {e : Ending} {n : Nat} (h : goR (lns t) 0 stR = .error n) (he : e = .returned (.tuple #[.slice none 0 0, .int .i64 (n : Nat), .int .i64 8])) (hS : St W w' R) : QPst W t R e w' := by unfold QPst; rw [h]; exact ⟨he, hS⟩
def tr16 : Tr := .plain 0 (.plain 1 (.plain 2 (.plain 3 (.held 4 (.plain 5 (.plain 6 (.plain 7 (.plain 8 (.held 9 (.plain 10 (.one 11 (.one 12 .done))))))))))))
def tr18 : Tr := .one 0 (.two 1 (.one 2 (.one 3 .done)) 2 (.one 1 (.one 3 .done)))
def tr19 : Tr := .plain 0 (.plain 1 (.plain 2 (.plain 3 (.plain 4 (.plain 5 (.plain 6 (.plain 7 (.held 8 (.held 9 (.plain 10 (.one 11 (.one 12 (.plain 13 (.plain 14 (.one 15 .done)))))))))))))))
def tr21 : Tr := .plain 0 (.plain 1 (.plain 2 (.plain 3 (.plain 4 (.plain 5 (.plain 6 (.plain 7 (.held 8 (.held 9 (.one 10 (.one 11 (.plain 12 (.plain 13 (.one 14 .done))))))))))))))
def tr25 : Tr := .plain 0 (.plain 1 (.plain 2 (.plain 3 (.held 4 (.held 5 (.plain 6 (.plain 7 (.one 8 (.one 9 .done)))))))))
def tr25b : Tr := .plain 10 (.plain 12 (.plain 13 (.two 11 (.one 14 .done) 14 (.one 11 .done))))
/-- Two cells of a row. -/
def C2 (ag k : Nat) (u v : Value) (w : World) : Prop := w.cell? ⟨ag, k, none⟩ = some u ∧ w.cell? ⟨ag, k + 1, none⟩ = some v
def C7 (ag k : Nat) (u : Value) (pb : Nat) (v : Value) (t : Nat) (w : World) : Prop := w.cell? ⟨ag, k, none⟩ = some u ∧ w.cell? ⟨pb, 0, none⟩ = some (.int .u8 0) ∧ w.cell? ⟨pb, 1, none⟩ = some (.int .i64 0) ∧ w.cell? ⟨pb, 2, none⟩ = some (.int .i64 0) ∧ w.cell? ⟨pb, 3, none⟩ = some (.string ⟨#[]⟩) ∧ w.cell? ⟨pb, 4, none⟩ = some v ∧ w.cell? ⟨pb, 5, none⟩ = some (.int .i64 (t : Nat))
def C5 (ag k : Nat) (u : Value) (pb : Nat) (x : Ac) (w : World) : Prop := w.cell? ⟨ag, k, none⟩ = some u ∧ w.cell? ⟨pb, 0, none⟩ = some (.int .u8 (x.k : Nat)) ∧ w.cell? ⟨pb, 1, none⟩ = some (.int .i64 x.c) ∧ w.cell? ⟨pb, 2, none⟩ = some (.int .i64 x.n) ∧ w.cell? ⟨pb, 3, none⟩ = some (.string ⟨x.s.toArray⟩)
set_option maxRecDepth 100000 in
set_option maxHeartbeats 32000000 in
theorem Tree_any {W w : World} {R : Asn} (t : Tx) (ht : t.length ≤ 100000) (h : St W w R) : Calls Tryz.prog 26 #[.string ⟨t.toArray⟩] w (QPst W t R) := by
  obtain ⟨iO, hiO, o0, o1, o2⟩ := info_parts infoO
  obtain ⟨iP, hiP, p0, p1, p2⟩ := info_parts infoP
  have hcut := fun (ag n ac m : Nat) (hm : m ≤ ac) (w : World) => run_cut_h (P := Tryz.prog) 99 98 3 Tryz.underlying99 sizeO (some ⟨ag, 0, none⟩) n ac m hm w
  have HCut := Lib.hid hcut
  clear hcut
  have hfew := lns_few t
  have hA := h.alloc (.cells #[.slice none 0 0, .int .i64 0, .int .i64 0] 98 (0, 0))
  obtain ⟨ag0, hag⟩ : ∃ z, w.heap.size = z := ⟨_, rfl⟩
  rw [hag] at hA
  have hB : St W (w.alloc (.cells #[.slice none 0 0, .int .i64 0, .int .i64 0] 98 (0, 0))) (star (Row 98 3 (.slice (some ⟨ag0, 0, none⟩) 1 1) 1 ([(⟨.slice none 0 0, [], 0, 0⟩ : OM)].flatMap oE)) R) := St.mkRow hA (Nat.le_refl _) (by unfold maxLen; omega) rfl rfl
  have HLi := Lib.hid (lines_any t (by omega) hB)
  clear h hA hB
  go_enter Tryz.func26, Tryz.ntmps26
  go_upto_region 2 with fail
  clear hag
  generalize w.alloc (.cells #[.slice none 0 0, .int .i64 0, .int .i64 0] 98 (0, 0)) = w1 at *
  go_wp2_with fail
  refine HLi.out.mono ?_
  rintro e w2 ⟨la, lc, rfl, h2⟩
  have h3 : St W w2 (star (Row 98 3 (.slice (some ⟨ag0, 0, none⟩) 1 1) 1 ([(⟨.slice none 0 0, [], 0, 0⟩ : OM)].flatMap oE)) (star (RW [(⟨.slice none 0 0, [], 0, 0⟩ : OM)]) (star emp (star (Row 9 1 (.slice la (lns t).length lc) (lns t).length (strsV (lns t))) R)))) := by
    rw [RW_one, emp_star]
    exact (h2.nilRow (e := 103) (size := 6)).eq (by show star (rowO ⟨.slice none 0 0, [], 0, 0⟩) _ = _; ac_rfl)
  have hlcap : (lns t).length ≤ lc ∧ lc ≤ 9223372036854775807 := by obtain ⟨_, _, _, hv, h1, h2, _⟩ := h2.rowSl; cases hv; exact ⟨h1, by simpa [maxLen] using h2⟩
  obtain ⟨ln, hln⟩ : ∃ z, (lns t).length = z := ⟨_, rfl⟩
  rw [hln] at h3 hlcap hfew
  obtain ⟨lv, hlv⟩ : ∃ z, Value.slice la (lns t).length lc = z := ⟨_, rfl⟩
  have HLN := Lib.hid hln
  clear h2 HLi hlv
  simp only [hln]
  clear hln
  go_wp2_with fail
  go_loopw [5, 7] (fun av iv wr => ∃ (i m ag ac : Nat) (os : List OM) (C : Asn), i ≤ ln ∧ m ≤ 8 ∧ iv = .int .i64 i ∧ av = .slice (some ⟨ag, 0, none⟩) (m + 1) ac ∧ m + 1 ≤ ac ∧ ac ≤ 9223372036854775807 ∧ Hid (os.length = m + 1 ∧ TI C os i ∧ goR (lns t) 0 stR = goR ((lns t).drop i) i (stO os)) ∧ St W wr (star (Row 98 3 (.slice (some ⟨ag, 0, none⟩) (m + 1) ac) (m + 1) (os.flatMap oE)) (star (RW os) (star C (star (Row 9 1 (.slice la ln lc) ln (strsV (lns t))) R))))) (fun _ iv _ => ln - (intOf iv).toNat)
  case atStart => exact ⟨0, 0, ag0, 1, [(⟨.slice none 0 0, [], 0, 0⟩ : OM)], emp, Nat.zero_le _, by omega, rfl, rfl, by omega, by omega, Lib.hid ⟨rfl, ⟨fun x hx => by simp at hx; subst hx; exact Lnk.nil _, fun x hx => by simp at hx; subst hx; exact ⟨fun q hq => by simp at hq, by simp, by simp⟩⟩, rfl⟩, h3⟩
  case round =>
    obtain ⟨i, m, ag, ac, os, C, hi, hm8, rfl, rfl, hac1, hac2, HI, hS⟩ := hrel
    clear h3
    by_cases hin : i < ln
    · have hinI : (i : Int) < ln := by omega
      obtain ⟨s, hs⟩ : ∃ s, (lns t)[i]? = some s := ⟨_, List.getElem?_eq_getElem (by rw [HLN.out]; exact hin)⟩
      have hslen : s.length ≤ 100000 := by
        have h1 : s.length ≤ t.length := line_len hs
        omega
      have hdr : (lns t).drop i = s :: (lns t).drop (i + 1) := by
        have hlt : i < (lns t).length := by rw [HLN.out]; exact hin
        rw [List.drop_eq_getElem_cons hlt, (List.getElem?_eq_some_iff.1 hs).2]
      have HST : Hid (goR (lns t) 0 stR = match lineR (stO os) s (i + 1) with | none => .error (i + 1) | some st' => goR ((lns t).drop (i + 1)) (i + 1) st') := Lib.hid (by rw [HI.out.2.2, hdr]; rfl)
      have hS1 := hS.eq (B := star (Row 9 1 (.slice la ln lc) ln (strsV (lns t))) (star (Row 98 3 (.slice (some ⟨ag, 0, none⟩) (m + 1) ac) (m + 1) (os.flatMap oE)) (star (RW os) (star C R)))) (by ac_rfl)
      obtain ⟨lg, lc', hlg⟩ := hS1.rowHead (by omega)
      cases hlg
      have l0 := hS1.rowAt (k := i) (u := .string ⟨s.toArray⟩) (by rw [strsV_get, hs]; rfl)
      have HW := Lib.hid (words_any s (by omega) hS)
      obtain ⟨l, hl⟩ : ∃ l, wordsR s = l := ⟨_, rfl⟩
      rw [hl] at HW
      have hlf : l.length ≤ 100000 := by have := words_few s.length s; rw [← hl]; exact Nat.le_trans this hslen
      have hwl : ∀ x ∈ l, x.length ≤ 100000 := fun x hx => Nat.le_trans (word_len (hl ▸ hx)) hslen
      have HWL := Lib.hid hwl
      have HL := Lib.hid hl
      clear hS hS1 hs hdr hl hwl
      go_wp2_with fail
      refine HW.out.mono ?_
      rintro e w5 ⟨wa, wk, rfl, hS⟩
      clear HW l0
      generalize hwn : l.length = wn at *
      cases l with
      | nil =>
        obtain rfl : wn = 0 := by simpa using hwn.symm
        have HN : Hid (goR (lns t) 0 stR = goR ((lns t).drop (i + 1)) (i + 1) (stO os)) := Lib.hid (by rw [HST.out]; unfold lineR; rw [HL.out])
        have HI2 : Hid (os.length = m + 1 ∧ TI C os (i + 1) ∧ goR (lns t) 0 stR = goR ((lns t).drop (i + 1)) (i + 1) (stO os)) := Lib.hid ⟨HI.out.1, ⟨HI.out.2.1.lnk, fun x hx => ⟨(HI.out.2.1.ok x hx).1, (HI.out.2.1.ok x hx).2.1, by have := (HI.out.2.1.ok x hx).2.2; omega⟩⟩, HN.out⟩
        have hS2 := hS.right
        clear hS hwn
        go_wp2_with fail
        exact ⟨⟨i + 1, m, ag, ac, os, C, by omega, hm8, by go_num, rfl, hac1, hac2, HI2, hS2⟩, by simp [intOf]; omega⟩
      | cons w0 r =>
        have hwn1 : wn = r.length + 1 := by rw [← hwn]; rfl
        obtain ⟨wg, wk', hwg⟩ := hS.rowHead (by omega)
        cases hwg
        have hwcap : wn ≤ wk ∧ wk ≤ 9223372036854775807 := by obtain ⟨_, _, _, hv, h1, h2, _⟩ := hS.rowSl; cases hv; exact ⟨h1, by simpa [maxLen] using h2⟩
        have hwz : ((wn : Int) == 0) = false := by rw [beq_eq_false_iff_ne]; omega
        have hwp : (0 : Int) < (wn : Int) := by omega
        have q0 := hS.rowAt (k := 0) (u := .string ⟨w0.toArray⟩) rfl
        have HWN := Lib.hid hwn1
        clear hwn hwn1
        by_cases hti : w0 = [116, 105, 109, 101, 115]
        · subst hti
          cases r with
          | nil =>
            obtain rfl : wn = 1 := by simpa using HWN.out
            have HE : Hid (goR (lns t) 0 stR = .error (i + 1)) := Lib.hid (by rw [HST.out]; unfold lineR; rw [HL.out]; rfl)
            have HS := Lib.hid hS.right.right.right.right.right
            clear hS
            go_wp2
            go_ret3
            exact QPst.err HE.out (by first | rfl | simp) HS.out
          | cons w1 r1 =>
            cases r1 with
            | cons w2 r2 =>
              have hne2 : ((wn : Int) != 2) = true := by rw [bne_iff_ne]; have := HWN.out; simp only [List.length_cons] at this; omega
              have HE : Hid (goR (lns t) 0 stR = .error (i + 1)) := Lib.hid (by rw [HST.out]; unfold lineR; rw [HL.out]; simp only [wTimes, hdN]; cases numM 1000 w1 <;> rfl)
              have HS := Lib.hid hS.right.right.right.right.right
              clear hS
              go_wp2
              go_ret3
              exact QPst.err HE.out (by first | rfl | simp) HS.out
            | nil =>
              obtain rfl : wn = 2 := by simpa using HWN.out
              have q1 := hS.rowAt (k := 1) (u := .string ⟨w1.toArray⟩) rfl
              have HN1 := Lib.hid (rNumber_any w1 1000 (by omega) hS)
              cases hk : numM 1000 w1 with
              | none =>
                rw [numV_none hk] at HN1
                clear hS
                go_wp2_with fail
                refine HN1.out.mono ?_
                rintro e w6 ⟨rfl, hS⟩
                clear q0 q1 HN1
                have HE : Hid (goR (lns t) 0 stR = .error (i + 1)) := Lib.hid (by rw [HST.out]; unfold lineR; rw [HL.out]; simp only [wTimes, hdN, hk]; rfl)
                have HS := Lib.hid hS.right.right.right.right.right
                clear hS
                go_wp2
                go_ret3
                exact QPst.err HE.out (by first | rfl | simp) HS.out
              | some k =>
                rw [numV_some hk] at HN1
                have hk0 : ¬ (k : Int) < 0 := by omega
                have hkm : k ≤ 1000 := numM_le hk
                clear hS
                go_wp2_with fail
                refine HN1.out.mono ?_
                rintro e w6 ⟨rfl, hS⟩
                clear q0 q1 HN1
                by_cases h8 : m = 8
                · subst h8
                  have HE : Hid (goR (lns t) 0 stR = .error (i + 1)) := Lib.hid (by rw [HST.out]; unfold lineR; rw [HL.out]; simp only [wTimes, hdN, hk, Option.map_some, stO_len, HI.out.1]; rfl)
                  have HS := Lib.hid hS.right.right.right.right.right
                  clear hS
                  go_wp2
                  go_ret3
                  exact QPst.err HE.out (by first | rfl | simp) HS.out
                · have h8I : ((m : Int) == 8) = false := by rw [beq_eq_false_iff_ne]; omega
                  have q1 := hS.rowAt (k := 1) (u := .string ⟨w1.toArray⟩) rfl
                  have HN1 := Lib.hid (rNumber_any w1 1000 (by omega) hS)
                  rw [numV_some hk] at HN1
                  have HN : Hid (goR (lns t) 0 stR = goR ((lns t).drop (i + 1)) (i + 1) (stO (os ++ [(⟨.slice none 0 0, [], k, i + 1⟩ : OM)]))) := Lib.hid (by
                    rw [HST.out]; unfold lineR; rw [HL.out]
                    simp only [wTimes, hdN, hk, Option.map_some, stO_len, HI.out.1]
                    rw [if_pos trivial, if_pos (by omega), stO_top]; rfl)
                  clear hS hk
                  go_wp2_with fail
                  refine HN1.out.mono ?_
                  rintro e w7 ⟨rfl, hS0⟩
                  clear q1 HN1
                  have hS := hS0.right
                  clear hS0
                  go_wp2_with (at_builtin; refine wpList_append1 rfl (.tmp 54) (.tmp 62) 99 rfl 98 iO zO 3 40 Tryz.underlying99 hiO o0 o1 o2 rfl _ (m + 1) (os.flatMap oE) rfl hS #[.slice none 0 0, .int .i64 (k : Nat), .int .i64 ((i : Int) + 1)] rfl rfl (by intro u hu; simp at hu; rcases hu with rfl | rfl | rfl <;> rfl) (by unfold maxLen; omega) (by omega) ?_)
                  intro a' c' w' hS2
                  have hcap2 : m + 1 + 1 ≤ c' ∧ c' ≤ 9223372036854775807 := by obtain ⟨_, _, _, hv, h1, h2, _⟩ := hS2.rowSl; cases hv; exact ⟨h1, by simpa [maxLen] using h2⟩
                  have hS3 : St W w' (star (Row 98 3 (.slice (some ⟨a', 0, none⟩) (m + 1 + 1) c') (m + 1 + 1) ((os ++ [(⟨.slice none 0 0, [], k, i + 1⟩ : OM)]).flatMap oE)) (star (RW (os ++ [(⟨.slice none 0 0, [], k, i + 1⟩ : OM)])) (star C (star (Row 9 1 (.slice (some ⟨lg, 0, none⟩) ln lc) ln (strsV (lns t))) R)))) := by
                    rw [RW_append, RW_one, List.flatMap_append]
                    exact (hS2.nilRow (e := 103) (size := 6)).eq (by show star (rowO ⟨.slice none 0 0, [], k, i + 1⟩) _ = _; simp only [List.flatMap_cons, List.flatMap_nil, List.append_nil]; show _ = star (Row 98 3 (.slice (some ⟨a', 0, none⟩) (m + 1 + 1) c') (m + 1 + 1) (os.flatMap oE ++ [.slice none 0 0, .int .i64 (k : Nat), .int .i64 ((i : Int) + 1)])) _; ac_rfl)
                  have HI2 : Hid ((os ++ [(⟨.slice none 0 0, [], k, i + 1⟩ : OM)]).length = m + 1 + 1 ∧ TI C (os ++ [(⟨.slice none 0 0, [], k, i + 1⟩ : OM)]) (i + 1) ∧ goR (lns t) 0 stR = goR ((lns t).drop (i + 1)) (i + 1) (stO (os ++ [(⟨.slice none 0 0, [], k, i + 1⟩ : OM)]))) := Lib.hid ⟨by rw [List.length_append, HI.out.1]; rfl, ⟨fun x hx => by
                    rcases List.mem_append.1 hx with hx | hx
                    · exact HI.out.2.1.lnk x hx
                    · simp at hx; subst hx; exact Lnk.nil _, fun x hx => by
                    rcases List.mem_append.1 hx with hx | hx
                    · exact ⟨(HI.out.2.1.ok x hx).1, (HI.out.2.1.ok x hx).2.1, by have := (HI.out.2.1.ok x hx).2.2; omega⟩
                    · simp at hx; subst hx; exact ⟨fun q hq => by simp at hq, hkm, by simp⟩⟩, HN.out⟩
                  clear hS hS2
                  go_wp2_with fail
                  exact ⟨⟨i + 1, m + 1, a', c', _, C, by omega, by omega, by go_num, rfl, by omega, by omega, HI2, hS3⟩, by simp [intOf]; omega⟩
        have htiB : (w0 == [116, 105, 109, 101, 115]) = false := by simpa using hti
        by_cases hen : w0 = [101, 110, 100]
        · skip
          subst hen
          cases r with
          | cons w1 r1 =>
            have hne1 : ((wn : Int) != 1) = true := by rw [bne_iff_ne]; have := HWN.out; simp only [List.length_cons] at this; omega
            have HE : Hid (goR (lns t) 0 stR = .error (i + 1)) := Lib.hid (by rw [HST.out]; rw [lineR_end_more HL.out])
            have HS := Lib.hid hS.right.right.right.right.right
            clear hS
            go_wp2
            go_ret3
            exact QPst.err HE.out (by first | rfl | simp) HS.out
          | nil =>
            obtain rfl : wn = 1 := by simpa using HWN.out
            by_cases hm0 : m = 0
            · have hm0I : ((m : Int) == 0) = true := by rw [beq_iff_eq]; omega
              have HE : Hid (goR (lns t) 0 stR = .error (i + 1)) := Lib.hid (by rw [HST.out]; rw [lineR_end_one HL.out (by rw [stO_len, HI.out.1, hm0])])
              have HS := Lib.hid hS.right.right.right.right.right
              clear hS
              go_wp2
              go_ret3
              exact QPst.err HE.out (by first | rfl | simp) HS.out
            · have hm0I : ((m : Int) == 0) = false := by rw [beq_eq_false_iff_ne]; omega
              obtain ⟨m1, hm1⟩ : ∃ m1, m = m1 + 1 := ⟨m - 1, by omega⟩
              have hm1I : (m : Int) - 1 = (m1 : Int) := by omega
              have hmlt : (m : Int) < (m : Int) + 1 := by omega
              have hm1lt : (m1 : Int) < (m : Int) := by omega
              obtain ⟨q, ⟨dv0, dpl, dt, dl⟩, ⟨bv0, bpl, bt, bl⟩, hos⟩ : ∃ q d b, os = q ++ [d, b] := last_two (by rw [HI.out.1]; omega)
              have hq : q.length = m1 := by
                have h5 := HI.out.1
                rw [hos, List.length_append] at h5
                simp only [List.length_cons, List.length_nil] at h5; omega
              subst hos
              have hS1 := hS.right
              clear hS
              have hS2 := hS1.eq (B := (star (rowO ⟨bv0, bpl, bt, bl⟩) (star (rowO ⟨dv0, dpl, dt, dl⟩) (star (RW q) (star (Row 98 3 (.slice (some ⟨ag, 0, none⟩) (m + 1) ac) (m + 1) ((q ++ [(⟨dv0, dpl, dt, dl⟩ : OM), (⟨bv0, bpl, bt, bl⟩ : OM)]).flatMap oE)) (star C (star (Row 9 1 (.slice (some ⟨lg, 0, none⟩) ln lc) ln (strsV (lns t))) R))))))) (by
                rw [RW_append]
                show star _ (star (star (RW q) (star (rowO ⟨dv0, dpl, dt, dl⟩) (star (rowO ⟨bv0, bpl, bt, bl⟩) emp))) _) = _
                rw [star_emp]; ac_rfl)
              obtain ⟨ba, bk, rfl⟩ : ∃ ba bk, bv0 = .slice ba bpl.length bk := by
                obtain ⟨-, a, k, hv, -⟩ := (St.rowSl (e := 103) (size := 6) (v := bv0) (n := bpl.length) (xs := bpl.flatMap pE) hS2)
                exact ⟨a, k, hv⟩
              obtain ⟨da, dk, rfl⟩ : ∃ da dk, dv0 = .slice da dpl.length dk := by
                obtain ⟨-, a, k, hv, -⟩ := (St.rowSl (e := 103) (size := 6) (v := dv0) (n := dpl.length) (xs := dpl.flatMap pE) hS2.right)
                exact ⟨a, k, hv⟩
              have hdcap : dpl.length ≤ dk ∧ dk ≤ 9223372036854775807 := by obtain ⟨_, _, _, hv, h1, h2, _⟩ := (St.rowSl (e := 103) (size := 6) (v := .slice da dpl.length dk) (n := dpl.length) (xs := dpl.flatMap pE) hS2.right); cases hv; exact ⟨h1, by simpa [maxLen] using h2⟩
              have hoD := HI.out.2.1.ok (⟨(.slice da dpl.length dk), dpl, dt, dl⟩ : OM) (by simp)
              have hoB := HI.out.2.1.ok (⟨(.slice ba bpl.length bk), bpl, bt, bl⟩ : OM) (by simp)
              have hdl6 : dpl.length ≤ 200000 := by have := hoD.2.2; simp only at this; omega
              have hbt : bt ≤ 1000 := hoB.2.1
              have HLB : Hid (Good (star (rowO (⟨(.slice ba bpl.length bk), bpl, bt, bl⟩ : OM)) C) (.slice ba bpl.length bk) bpl) := Lib.hid (lnk_row (HI.out.2.1.lnk (⟨(.slice ba bpl.length bk), bpl, bt, bl⟩ : OM) (by simp)) hoB.1)
              have HN : ∀ v', Hid (goR (lns t) 0 stR = goR ((lns t).drop (i + 1)) (i + 1) (stO (q ++ [(⟨v', dpl ++ [(Sm.loop bt (manyS (sms bpl)) (actsS (sms bpl)), (.slice ba bpl.length bk))], dt, dl⟩ : OM)]))) := fun v' => Lib.hid (by
                rw [HST.out, stO_two, stO_top, lineR_end HL.out]
                simp only [oP, sms, List.map_append, List.map_cons, List.map_nil])
              have HI2 : ∀ v', Hid ((q ++ [(⟨v', dpl ++ [(Sm.loop bt (manyS (sms bpl)) (actsS (sms bpl)), (.slice ba bpl.length bk))], dt, dl⟩ : OM)]).length = m1 + 1 ∧ TI (star (rowO (⟨(.slice ba bpl.length bk), bpl, bt, bl⟩ : OM)) C) (q ++ [(⟨v', dpl ++ [(Sm.loop bt (manyS (sms bpl)) (actsS (sms bpl)), (.slice ba bpl.length bk))], dt, dl⟩ : OM)]) (i + 1) ∧ goR (lns t) 0 stR = goR ((lns t).drop (i + 1)) (i + 1) (stO (q ++ [(⟨v', dpl ++ [(Sm.loop bt (manyS (sms bpl)) (actsS (sms bpl)), (.slice ba bpl.length bk))], dt, dl⟩ : OM)]))) := fun v' => Lib.hid ⟨by rw [List.length_append, hq]; rfl, ⟨fun x hx => by
                rcases List.mem_append.1 hx with hx | hx
                · exact (HI.out.2.1.lnk x (by simp [hx])).mono _
                · simp at hx; subst hx
                  exact Lnk.loop ((HI.out.2.1.lnk (⟨(.slice da dpl.length dk), dpl, dt, dl⟩ : OM) (by simp)).mono _) HLB.out bt, fun x hx => by
                rcases List.mem_append.1 hx with hx | hx
                · have h5 := HI.out.2.1.ok x (by simp [hx])
                  exact ⟨h5.1, h5.2.1, by have := h5.2.2; omega⟩
                · simp at hx; subst hx
                  exact ⟨hoD.1.snoc hbt, hoD.2.1, by have := hoD.2.2; simp only at this; simp only [List.length_append, List.length_singleton]; omega⟩⟩, (HN v').out⟩
              have HI3 := Lib.hid HI2
              clear HN HI2 hoD hoB HLB
              have hoat := oat (r := []) (b := (⟨(.slice ba bpl.length bk), bpl, bt, bl⟩ : OM)) (q := q ++ [(⟨(.slice da dpl.length dk), dpl, dt, dl⟩ : OM)]) (m := m) (by rw [List.length_append, List.length_singleton, hq, hm1])
              rw [List.append_assoc] at hoat
              have hoat : ((q ++ [(⟨(.slice da dpl.length dk), dpl, dt, dl⟩ : OM), (⟨(.slice ba bpl.length bk), bpl, bt, bl⟩ : OM)]).flatMap oE)[m * 3]? = some (.slice ba bpl.length bk) ∧ ((q ++ [(⟨(.slice da dpl.length dk), dpl, dt, dl⟩ : OM), (⟨(.slice ba bpl.length bk), bpl, bt, bl⟩ : OM)]).flatMap oE)[m * 3 + 1]? = some (.int .i64 (bt : Nat)) := ⟨hoat.1, hoat.2.1⟩
              have HC : Hid (∀ w A, St W w (star (Row 98 3 (.slice (some ⟨ag, 0, none⟩) (m + 1) ac) (m + 1) ((q ++ [(⟨(.slice da dpl.length dk), dpl, dt, dl⟩ : OM), (⟨(.slice ba bpl.length bk), bpl, bt, bl⟩ : OM)]).flatMap oE)) A) → C2 ag (m * 3) (.slice ba bpl.length bk) (.int .i64 (bt : Nat)) w) := Lib.hid fun w A h => ⟨h.rowAt hoat.1, h.rowAt hoat.2⟩
              have hd := hS1.drew
              clear hS1 hS2 hoat
              have HM1 := Lib.hid hm1
              clear hm1
              go_upto_region 16 with fail
              clear q0
              refine Go.Proofs.YtcjlbimmplejjaaGreatDoor.Held.wp_region_held (C2 ag (m * 3) (.slice ba bpl.length bk) (.int .i64 (bt : Nat))) [] tr16 (by kernel_rfl) (by kernel_rfl) (HC.out _ _ hd) ?_
              generalize w5.drew = v5 at *
              unfold tr16
              refine tr_plain (.slice (some ⟨ag, 0, none⟩) (m + 1) ac) rfl ?_ (by simp only [nthOp, Act.put, List.setIfInBounds_toArray, List.set_cons_succ, List.set_cons_zero]; rfl) ?_
              · exact fun _ => rfl
              refine tr_plain (.int .i64 (m : Nat)) rfl ?_ (by simp only [nthOp, Act.put, List.setIfInBounds_toArray, List.set_cons_succ, List.set_cons_zero]; rfl) ?_
              · exact fun _ => rfl
              refine tr_plain (.pointer (some ⟨ag, m * 3, none⟩)) rfl ?_ (by simp only [nthOp, Act.put, List.setIfInBounds_toArray, List.set_cons_succ, List.set_cons_zero]; rfl) ?_
              · (intro w'; simp only [nthOp]; go_simp <;> first | done | (rw [IntKind.wrap_i64]; omega) | skip)
              refine tr_plain (.pointer (some ⟨ag, m * 3, none⟩)) rfl ?_ (by simp only [nthOp, Act.put, List.setIfInBounds_toArray, List.set_cons_succ, List.set_cons_zero]; rfl) ?_
              · (intro w'; simp only [nthOp]; go_simp <;> first | done | (rw [IntKind.wrap_i64]; omega) | skip)
              refine tr_held (.slice ba bpl.length bk) rfl ?_ (by simp only [nthOp, Act.put, List.setIfInBounds_toArray, List.set_cons_succ, List.set_cons_zero]; rfl) ?_
              · (rintro w' ⟨hc0, hc1⟩; simp only [nthOp]; go_simp)
              refine tr_plain (.slice (some ⟨ag, 0, none⟩) (m + 1) ac) rfl ?_ (by simp only [nthOp, Act.put, List.setIfInBounds_toArray, List.set_cons_succ, List.set_cons_zero]; rfl) ?_
              · exact fun _ => rfl
              refine tr_plain (.int .i64 (m : Nat)) rfl ?_ (by simp only [nthOp, Act.put, List.setIfInBounds_toArray, List.set_cons_succ, List.set_cons_zero]; rfl) ?_
              · exact fun _ => rfl
              refine tr_plain (.pointer (some ⟨ag, m * 3, none⟩)) rfl ?_ (by simp only [nthOp, Act.put, List.setIfInBounds_toArray, List.set_cons_succ, List.set_cons_zero]; rfl) ?_
              · (intro w'; simp only [nthOp]; go_simp <;> first | done | (rw [IntKind.wrap_i64]; omega) | skip)
              refine tr_plain (.pointer (some ⟨ag, m * 3 + 1, none⟩)) rfl ?_ (by simp only [nthOp, Act.put, List.setIfInBounds_toArray, List.set_cons_succ, List.set_cons_zero]; rfl) ?_
              · (intro w'; simp only [nthOp]; go_simp <;> first | done | (rw [IntKind.wrap_i64]; omega) | skip)
              refine tr_held (.int .i64 (bt : Nat)) rfl ?_ (by simp only [nthOp, Act.put, List.setIfInBounds_toArray, List.set_cons_succ, List.set_cons_zero]; rfl) ?_
              · (rintro w' ⟨hc0, hc1⟩; simp only [nthOp]; go_simp)
              refine tr_plain (.agg #[.int .u8 0, .int .i64 0, .int .i64 0, .string ⟨#[]⟩, (.slice ba bpl.length bk), .int .i64 (bt : Nat)]) rfl ?_ (by simp only [nthOp, Act.put, List.setIfInBounds_toArray, List.set_cons_succ, List.set_cons_zero]; rfl) ?_
              · (intro w'; simp only [nthOp]; go_simp <;> first | done | (rw [IntKind.wrap_i64]; omega) | skip)
              have hA := hd.alloc (.cells #[.int .u8 0, .int .i64 0, .int .i64 0, .string ⟨#[]⟩, .slice none 0 0, .int .i64 0] 103 (0, 0))
              obtain ⟨pb, hpb⟩ : ∃ z, v5.heap.size = z := ⟨_, rfl⟩
              rw [hpb] at hA
              clear hd
              refine tr_one ?_
              simp only [nthOp]
              go_wp2_with fail
              simp only [Reg.Next]
              refine ⟨fun _ => HC.out _ _ hA.right, ?_⟩
              clear hpb
              generalize v5.alloc (.cells #[.int .u8 0, .int .i64 0, .int .i64 0, .string ⟨#[]⟩, .slice none 0 0, .int .i64 0] 103 (0, 0)) = v6 at *
              have z0 := hA.cell 0 (v := .int .u8 0) rfl
              have g0 := hA.free 0
              have z1 := hA.cell 1 (v := .int .i64 0) rfl
              have g1 := hA.free 1
              have z2 := hA.cell 2 (v := .int .i64 0) rfl
              have g2 := hA.free 2
              have z3 := hA.cell 3 (v := .string ⟨#[]⟩) rfl
              have g3 := hA.free 3
              have z4 := hA.cell 4 (v := .slice none 0 0) rfl
              have g4 := hA.free 4
              have z5 := hA.cell 5 (v := .int .i64 0) rfl
              have g5 := hA.free 5
              have hD := (((((hA.setCell 0 (.int .u8 0)).setCell 1 (.int .i64 0)).setCell 2 (.int .i64 0)).setCell 3 (.string ⟨#[]⟩)).setCell 4 (.slice ba bpl.length bk)).setCell 5 (.int .i64 (bt : Nat))
              clear hA
              refine tr_one ?_
              simp only [nthOp]
              go_wp2_with fail
              simp only [Reg.Next]
              refine ⟨fun _ => HC.out _ _ hD.right, ?_⟩
              clear z0 g0 z1 g1 z2 g2 z3 g3 z4 g4 z5 g5
              generalize ((((((v6.setCell ⟨pb, 0, none⟩ (.int .u8 0)).setCell ⟨pb, 1, none⟩ (.int .i64 0)).setCell ⟨pb, 2, none⟩ (.int .i64 0)).setCell ⟨pb, 3, none⟩ (.string ⟨#[]⟩)).setCell ⟨pb, 4, none⟩ (.slice ba bpl.length bk)).setCell ⟨pb, 5, none⟩ (.int .i64 (bt : Nat))) = v7 at *
              have hS : St W v7 (star (pt pb (.cells #[.int .u8 0, .int .i64 0, .int .i64 0, .string ⟨#[]⟩, (.slice ba bpl.length bk), .int .i64 (bt : Nat)] 103 (0, 0))) (star (Row 98 3 (.slice (some ⟨ag, 0, none⟩) (m + 1) ac) (m + 1) ((q ++ [(⟨(.slice da dpl.length dk), dpl, dt, dl⟩ : OM), (⟨(.slice ba bpl.length bk), bpl, bt, bl⟩ : OM)]).flatMap oE)) (star (RW (q ++ [(⟨(.slice da dpl.length dk), dpl, dt, dl⟩ : OM), (⟨(.slice ba bpl.length bk), bpl, bt, bl⟩ : OM)])) (star C (star (Row 9 1 (.slice (some ⟨lg, 0, none⟩) ln lc) ln (strsV (lns t))) R))))) := hD
              clear hD
              refine tr_done ?_
              have hrun : ∀ w, (Instr.slice 99 (.slice (some ⟨ag, 0, none⟩) (m + 1) ac) none (some (.int .i64 (m : Nat))) none).run Tryz.prog w = .ok (.slice (some ⟨ag, 0, none⟩) m ac) w := fun w => by
                rw [HCut.out ag (m + 1) ac m (by omega) w]
                unfold cutV
                rw [Nat.zero_mul, Nat.sub_zero, Nat.sub_zero]
                by_cases h0 : ac = 0
                · rw [if_pos h0]
                · rw [if_neg h0]; rfl
              have hS2 := St.rowCut (m := m) (hS.eq (B := (star (Row 98 3 (.slice (some ⟨ag, 0, none⟩) (m + 1) ac) (m + 1) ((q ++ [(⟨(.slice da dpl.length dk), dpl, dt, dl⟩ : OM), (⟨(.slice ba bpl.length bk), bpl, bt, bl⟩ : OM)]).flatMap oE)) (star (pt pb (.cells #[.int .u8 0, .int .i64 0, .int .i64 0, .string ⟨#[]⟩, (.slice ba bpl.length bk), .int .i64 (bt : Nat)] 103 (0, 0))) (star (rowO (⟨(.slice da dpl.length dk), dpl, dt, dl⟩ : OM)) (star (rowO (⟨(.slice ba bpl.length bk), bpl, bt, bl⟩ : OM)) (star (RW q) (star C (star (Row 9 1 (.slice (some ⟨lg, 0, none⟩) ln lc) ln (strsV (lns t))) R)))))))) (by
                rw [RW_append]
                show star _ (star _ (star (star (RW q) (star (rowO (⟨(.slice da dpl.length dk), dpl, dt, dl⟩ : OM)) (star (rowO (⟨(.slice ba bpl.length bk), bpl, bt, bl⟩ : OM)) emp))) _)) = _
                rw [star_emp]; ac_rfl)) (by omega)
              rw [otake (by rw [hq]; exact HM1.out.symm)] at hS2
              clear hS
              go_upto_region 18 with fail
              have hd := hS2.drew
              clear hS2 hrun
              refine Go.Proofs.YtcjlbimmplejjaaGreatDoor.Held.wp_region_held (fun _ => True) [] tr18 (by kernel_rfl) (by kernel_rfl) trivial ?_
              generalize v7.drew = v8 at *
              unfold tr18
              have hA := hd.alloc (.cells #[.bool false] 4 (0, 0))
              obtain ⟨fb, hfb⟩ : ∃ z, v8.heap.size = z := ⟨_, rfl⟩
              rw [hfb] at hA
              clear hd
              refine tr_one ?_
              simp only [nthOp]
              go_wp2_with fail
              simp only [Reg.Next]
              refine ⟨fun _ => trivial, ?_⟩
              clear hfb
              generalize v8.alloc (.cells #[.bool false] 4 (0, 0)) = v9 at *
              have z0 := hA.cell 0 (v := .bool false) rfl
              have g0 := hA.free 0
              have HSF := Lib.hid hA
              clear hA
              refine tr_two ?_ ?_
              · skip
                have hA := HSF.out
                have hB := hA.setCell 0 (.bool true)
                simp only [nthOp]
                go_wp2_with fail
                simp only [Reg.Next]
                refine ⟨fun _ => trivial, ?_⟩
                clear z0 g0 hA HSF
                generalize v9.setCell ⟨fb, 0, none⟩ (.bool true) = y1 at *
                have hB : St W y1 (star (pt fb (.cells #[.bool true] 4 (0, 0))) _) := hB
                have z0 := hB.cell 0 (v := .bool true) rfl
                have g0 := hB.free 0
                have hD := hB.setCell 0 (.bool false)
                clear hB
                refine tr_one ?_
                simp only [nthOp]
                go_wp2_with fail
                simp only [Reg.Next]
                refine ⟨fun _ => trivial, ?_⟩
                clear z0 g0
                generalize y1.setCell ⟨fb, 0, none⟩ (.bool false) = y2 at *
                have hD : St W y2 (star (pt fb (.cells #[.bool false] 4 (0, 0))) _) := hD
                have z0 := hD.cell 0 (v := .bool false) rfl
                refine tr_one ?_
                simp only [nthOp]
                go_wp2_with fail
                simp only [Reg.Next]
                refine ⟨fun _ => trivial, ?_⟩
                clear z0
                have hS := hD.right
                clear hD
                refine tr_done ?_
                have hoat := (oat (r := []) (b := (⟨(.slice da dpl.length dk), dpl, dt, dl⟩ : OM)) (q := q) (m := m1) hq).1
                have HC7 : Hid (∀ w A, St W w (star (Row 98 3 (.slice (some ⟨ag, 0, none⟩) m ac) m ((q ++ [(⟨(.slice da dpl.length dk), dpl, dt, dl⟩ : OM)]).flatMap oE)) (star (pt pb (.cells #[.int .u8 0, .int .i64 0, .int .i64 0, .string ⟨#[]⟩, (.slice ba bpl.length bk), .int .i64 (bt : Nat)] 103 (0, 0))) A)) → C7 ag (m1 * 3) (.slice da dpl.length dk) pb (.slice ba bpl.length bk) bt w) := Lib.hid fun w A h => ⟨h.rowAt hoat, h.right.cell 0 rfl, h.right.cell 1 rfl, h.right.cell 2 rfl, h.right.cell 3 rfl, h.right.cell 4 rfl, h.right.cell 5 rfl⟩
                clear hoat
                go_upto_region 21 with fail
                have hd := hS.drew
                clear hS
                refine Go.Proofs.YtcjlbimmplejjaaGreatDoor.Held.wp_region_held (C7 ag (m1 * 3) (.slice da dpl.length dk) pb (.slice ba bpl.length bk) bt) [14] tr21 (by kernel_rfl) (by kernel_rfl) (HC7.out _ _ hd) ?_
                generalize y2.drew = y3 at *
                unfold tr21
                refine tr_plain (.slice (some ⟨ag, 0, none⟩) m ac) rfl ?_ (by simp only [nthOp, Act.put, List.setIfInBounds_toArray, List.set_cons_succ, List.set_cons_zero]; rfl) ?_
                · exact fun _ => rfl
                refine tr_plain (.int .i64 (m : Nat)) rfl ?_ (by simp only [nthOp, Act.put, List.setIfInBounds_toArray, List.set_cons_succ, List.set_cons_zero]; rfl) ?_
                · exact fun _ => rfl
                refine tr_plain (.int .i64 (m1 : Nat)) rfl ?_ (by simp only [nthOp, Act.put, List.setIfInBounds_toArray, List.set_cons_succ, List.set_cons_zero]; rfl) ?_
                · (intro w'; simp only [nthOp]; go_simp <;> first | done | (rw [IntKind.wrap_i64]; omega) | skip)
                refine tr_plain (.slice (some ⟨ag, 0, none⟩) m ac) rfl ?_ (by simp only [nthOp, Act.put, List.setIfInBounds_toArray, List.set_cons_succ, List.set_cons_zero]; rfl) ?_
                · exact fun _ => rfl
                refine tr_plain (.int .i64 (m : Nat)) rfl ?_ (by simp only [nthOp, Act.put, List.setIfInBounds_toArray, List.set_cons_succ, List.set_cons_zero]; rfl) ?_
                · exact fun _ => rfl
                refine tr_plain (.int .i64 (m1 : Nat)) rfl ?_ (by simp only [nthOp, Act.put, List.setIfInBounds_toArray, List.set_cons_succ, List.set_cons_zero]; rfl) ?_
                · (intro w'; simp only [nthOp]; go_simp <;> first | done | (rw [IntKind.wrap_i64]; omega) | skip)
                refine tr_plain (.pointer (some ⟨ag, m1 * 3, none⟩)) rfl ?_ (by simp only [nthOp, Act.put, List.setIfInBounds_toArray, List.set_cons_succ, List.set_cons_zero]; rfl) ?_
                · (intro w'; simp only [nthOp]; go_simp <;> first | done | (rw [IntKind.wrap_i64]; omega) | skip)
                refine tr_plain (.pointer (some ⟨ag, m1 * 3, none⟩)) rfl ?_ (by simp only [nthOp, Act.put, List.setIfInBounds_toArray, List.set_cons_succ, List.set_cons_zero]; rfl) ?_
                · (intro w'; simp only [nthOp]; go_simp <;> first | done | (rw [IntKind.wrap_i64]; omega) | skip)
                refine tr_held (.slice da dpl.length dk) rfl ?_ (by simp only [nthOp, Act.put, List.setIfInBounds_toArray, List.set_cons_succ, List.set_cons_zero]; rfl) ?_
                · (rintro w' ⟨hc0, hr0, hr1, hr2, hr3, hr4, hr5⟩; simp only [nthOp]; go_simp)
                refine tr_held (.agg #[.int .u8 0, .int .i64 0, .int .i64 0, .string ⟨#[]⟩, (.slice ba bpl.length bk), .int .i64 (bt : Nat)]) rfl ?_ (by simp only [nthOp, Act.put, List.setIfInBounds_toArray, List.set_cons_succ, List.set_cons_zero]; rfl) ?_
                · (rintro w' ⟨hc0, hr0, hr1, hr2, hr3, hr4, hr5⟩; simp only [nthOp]; go_simp)
                have hA := hd.alloc (.cells #[.int .u8 0, .int .i64 0, .int .i64 0, .string ⟨#[]⟩, (.slice ba bpl.length bk), .int .i64 (bt : Nat)] 103 (0, 0))
                obtain ⟨nb, hnb⟩ : ∃ z, y3.heap.size = z := ⟨_, rfl⟩
                rw [hnb] at hA
                clear hd
                refine tr_one ?_
                simp only [nthOp]
                go_wp2_with fail
                simp only [Reg.Next]
                refine ⟨fun _ => HC7.out _ _ hA.right, ?_⟩
                clear hnb
                generalize y3.alloc (.cells #[.int .u8 0, .int .i64 0, .int .i64 0, .string ⟨#[]⟩, (.slice ba bpl.length bk), .int .i64 (bt : Nat)] 103 (0, 0)) = y4 at *
                have hO : St W y4 (star (Row 103 6 (.slice (some ⟨nb, 0, none⟩) 1 1) 1 ((pE (Sm.loop bt (manyS (sms bpl)) (actsS (sms bpl)), (.slice ba bpl.length bk))))) _) := St.mkRow (size := 6) (n := 1) (cap := 1) (xs := (pE (Sm.loop bt (manyS (sms bpl)) (actsS (sms bpl)), (.slice ba bpl.length bk)))) hA (Nat.le_refl _) (by unfold maxLen; omega) rfl rfl
                have hone := hO.rowSl
                have hrow := hO.eq (B := (star (Row 103 6 (.slice da dpl.length dk) dpl.length (dpl.flatMap pE)) (star (Row 103 6 (.slice (some ⟨nb, 0, none⟩) 1 1) 1 ((pE (Sm.loop bt (manyS (sms bpl)) (actsS (sms bpl)), (.slice ba bpl.length bk))))) (star (Row 98 3 (.slice (some ⟨ag, 0, none⟩) m ac) m ((q ++ [(⟨(.slice da dpl.length dk), dpl, dt, dl⟩ : OM)]).flatMap oE)) (star (pt pb (.cells #[.int .u8 0, .int .i64 0, .int .i64 0, .string ⟨#[]⟩, (.slice ba bpl.length bk), .int .i64 (bt : Nat)] 103 (0, 0))) (star (rowO (⟨(.slice ba bpl.length bk), bpl, bt, bl⟩ : OM)) (star (RW q) (star C (star (Row 9 1 (.slice (some ⟨lg, 0, none⟩) ln lc) ln (strsV (lns t))) R))))))))) (by show star _ (star _ (star _ (star (Row 103 6 (.slice da dpl.length dk) dpl.length (dpl.flatMap pE)) _))) = _; ac_rfl)
                clear hA hO
                refine tr_one ?_
                simp only [nthOp]
                go_wp2_with (at_builtin; refine wpList_append_Sl rfl (.tmp 117) (.tmp 119) 58 rfl 103 iP zP 6 72 Tryz.underlying58 hiP p0 p1 p2 rfl _ dpl.length (dpl.flatMap pE) rfl hrow _ 1 ((pE (Sm.loop bt (manyS (sms bpl)) (actsS (sms bpl)), (.slice ba bpl.length bk)))) rfl hone (pE_one _ rfl) (by unfold maxLen; omega) (by omega) ?_; intro vN wN h9 _)
                simp only [Reg.Next]
                obtain ⟨vg, vk, rfl⟩ := h9.rowHead (by omega)
                have hN := h9.eq (B := (star (Row 103 6 (.slice (some ⟨vg, 0, none⟩) (dpl.length + 1) vk) (dpl.length + 1) (dpl.flatMap pE ++ (pE (Sm.loop bt (manyS (sms bpl)) (actsS (sms bpl)), (.slice ba bpl.length bk))))) (star (Row 103 6 (.slice (some ⟨nb, 0, none⟩) 1 1) 1 ((pE (Sm.loop bt (manyS (sms bpl)) (actsS (sms bpl)), (.slice ba bpl.length bk))))) (star (Row 98 3 (.slice (some ⟨ag, 0, none⟩) m ac) m ((q ++ [(⟨(.slice da dpl.length dk), dpl, dt, dl⟩ : OM)]).flatMap oE)) (star (pt pb (.cells #[.int .u8 0, .int .i64 0, .int .i64 0, .string ⟨#[]⟩, (.slice ba bpl.length bk), .int .i64 (bt : Nat)] 103 (0, 0))) (star (rowO (⟨(.slice ba bpl.length bk), bpl, bt, bl⟩ : OM)) (star (RW q) (star C (star (Row 9 1 (.slice (some ⟨lg, 0, none⟩) ln lc) ln (strsV (lns t))) R))))))))) rfl
                have hN := (hN.eq (B := star (Row 103 6 (.slice (some ⟨nb, 0, none⟩) 1 1) 1 ((pE (Sm.loop bt (manyS (sms bpl)) (actsS (sms bpl)), (.slice ba bpl.length bk))))) (star (Row 98 3 (.slice (some ⟨ag, 0, none⟩) m ac) m ((q ++ [(⟨(.slice da dpl.length dk), dpl, dt, dl⟩ : OM)]).flatMap oE)) (star (pt pb (.cells #[.int .u8 0, .int .i64 0, .int .i64 0, .string ⟨#[]⟩, (.slice ba bpl.length bk), .int .i64 (bt : Nat)] 103 (0, 0))) (star (Row 103 6 (.slice (some ⟨vg, 0, none⟩) (dpl.length + 1) vk) (dpl.length + 1) (dpl.flatMap pE ++ (pE (Sm.loop bt (manyS (sms bpl)) (actsS (sms bpl)), (.slice ba bpl.length bk))))) (star (rowO (⟨(.slice ba bpl.length bk), bpl, bt, bl⟩ : OM)) (star (RW q) (star C (star (Row 9 1 (.slice (some ⟨lg, 0, none⟩) ln lc) ln (strsV (lns t))) R)))))))) (by ac_rfl)).right
                have hvcap : dpl.length + 1 ≤ vk ∧ vk ≤ 9223372036854775807 := by obtain ⟨_, _, _, hv, h1, h2, _⟩ := h9.rowSl; cases hv; exact ⟨h1, by simpa [maxLen] using h2⟩
                clear h9 hrow hone
                first | refine ⟨HC7.out _ _ hN, ?_⟩ | refine ⟨fun _ => HC7.out _ _ hN, ?_⟩
                refine tr_plain (.pointer (some ⟨ag, m1 * 3, none⟩)) rfl ?_ (by simp only [nthOp, Act.put, List.setIfInBounds_toArray, List.set_cons_succ, List.set_cons_zero]; rfl) ?_
                · (intro w'; simp only [nthOp]; go_simp <;> first | done | (rw [IntKind.wrap_i64]; omega) | skip)
                refine tr_plain (.pointer (some ⟨ag, m1 * 3, none⟩)) rfl ?_ (by simp only [nthOp, Act.put, List.setIfInBounds_toArray, List.set_cons_succ, List.set_cons_zero]; rfl) ?_
                · (intro w'; simp only [nthOp]; go_simp <;> first | done | (rw [IntKind.wrap_i64]; omega) | skip)
                have z0 := (HC7.out _ _ hN).1
                have g0 := hN.rowFree (m1 * 3)
                have hF := hN.rowSet (m1 * 3) (.slice (some ⟨vg, 0, none⟩) (dpl.length + 1) vk)
                clear hN
                refine tr_one ?_
                simp only [nthOp]
                go_wp2_with fail
                simp only [Reg.Next]
                refine ⟨fun h => (by simp at h), ?_⟩
                clear z0 g0
                generalize hwN : World.setCell wN _ _ = y8 at *
                clear hwN
                refine tr_done ?_
                have hG : St W y8 (star (Row 98 3 (.slice (some ⟨ag, 0, none⟩) m ac) m ((q ++ [(⟨.slice (some ⟨vg, 0, none⟩) (dpl.length + 1) vk, dpl ++ [(Sm.loop bt (manyS (sms bpl)) (actsS (sms bpl)), (.slice ba bpl.length bk))], dt, dl⟩ : OM)]).flatMap oE)) (star (RW (q ++ [(⟨.slice (some ⟨vg, 0, none⟩) (dpl.length + 1) vk, dpl ++ [(Sm.loop bt (manyS (sms bpl)) (actsS (sms bpl)), (.slice ba bpl.length bk))], dt, dl⟩ : OM)])) (star (star (rowO (⟨(.slice ba bpl.length bk), bpl, bt, bl⟩ : OM)) C) (star (Row 9 1 (.slice (some ⟨lg, 0, none⟩) ln lc) ln (strsV (lns t))) R)))) := by
                  have h5 := hF
                  rw [oset hq _ (dpl ++ [(Sm.loop bt (manyS (sms bpl)) (actsS (sms bpl)), (.slice ba bpl.length bk))])] at h5
                  have h6 := (h5.eq (B := star (pt pb (.cells #[.int .u8 0, .int .i64 0, .int .i64 0, .string ⟨#[]⟩, (.slice ba bpl.length bk), .int .i64 (bt : Nat)] 103 (0, 0))) (star (Row 98 3 (.slice (some ⟨ag, 0, none⟩) m ac) m ((q ++ [(⟨.slice (some ⟨vg, 0, none⟩) (dpl.length + 1) vk, dpl ++ [(Sm.loop bt (manyS (sms bpl)) (actsS (sms bpl)), (.slice ba bpl.length bk))], dt, dl⟩ : OM)]).flatMap oE)) (star (Row 103 6 (.slice (some ⟨vg, 0, none⟩) (dpl.length + 1) vk) (dpl.length + 1) (dpl.flatMap pE ++ pE (Sm.loop bt (manyS (sms bpl)) (actsS (sms bpl)), (.slice ba bpl.length bk)))) (star (rowO (⟨(.slice ba bpl.length bk), bpl, bt, bl⟩ : OM)) (star (RW q) (star C (star (Row 9 1 (.slice (some ⟨lg, 0, none⟩) ln lc) ln (strsV (lns t))) R))))))) (by ac_rfl)).right
                  refine h6.eq ?_
                  rw [RW_append, RW_one]
                  unfold rowO
                  simp only [List.length_append, List.length_singleton, List.flatMap_append, List.flatMap_cons, List.flatMap_nil, List.append_nil]
                  ac_rfl
                have hmm : m = m1 + 1 := HM1.out
                subst hmm
                have HG := Lib.hid hG
                clear hF hG
                go_wp2_with fail
                exact ⟨⟨i + 1, m1, ag, ac, _, _, by omega, by omega, by go_num, rfl, by omega, by omega, HI3.out _, HG.out⟩, by simp [intOf]; omega⟩
              · skip
                have hA := HSF.out
                have hB := hA.setCell 0 (.bool false)
                simp only [nthOp]
                go_wp2_with fail
                simp only [Reg.Next]
                refine ⟨fun _ => trivial, ?_⟩
                clear z0 g0 hA HSF
                generalize v9.setCell ⟨fb, 0, none⟩ (.bool false) = y1 at *
                have hB : St W y1 (star (pt fb (.cells #[.bool false] 4 (0, 0))) _) := hB
                have z0 := hB.cell 0 (v := .bool false) rfl
                have g0 := hB.free 0
                have hD := hB.setCell 0 (.bool true)
                clear hB
                refine tr_one ?_
                simp only [nthOp]
                go_wp2_with fail
                simp only [Reg.Next]
                refine ⟨fun _ => trivial, ?_⟩
                clear z0 g0
                generalize y1.setCell ⟨fb, 0, none⟩ (.bool true) = y2 at *
                have hD : St W y2 (star (pt fb (.cells #[.bool true] 4 (0, 0))) _) := hD
                have z0 := hD.cell 0 (v := .bool true) rfl
                refine tr_one ?_
                simp only [nthOp]
                go_wp2_with fail
                simp only [Reg.Next]
                refine ⟨fun _ => trivial, ?_⟩
                clear z0
                have hS := hD.right
                clear hD
                refine tr_done ?_
                have hoat := (oat (r := []) (b := (⟨(.slice da dpl.length dk), dpl, dt, dl⟩ : OM)) (q := q) (m := m1) hq).1
                have HC7 : Hid (∀ w A, St W w (star (Row 98 3 (.slice (some ⟨ag, 0, none⟩) m ac) m ((q ++ [(⟨(.slice da dpl.length dk), dpl, dt, dl⟩ : OM)]).flatMap oE)) (star (pt pb (.cells #[.int .u8 0, .int .i64 0, .int .i64 0, .string ⟨#[]⟩, (.slice ba bpl.length bk), .int .i64 (bt : Nat)] 103 (0, 0))) A)) → C7 ag (m1 * 3) (.slice da dpl.length dk) pb (.slice ba bpl.length bk) bt w) := Lib.hid fun w A h => ⟨h.rowAt hoat, h.right.cell 0 rfl, h.right.cell 1 rfl, h.right.cell 2 rfl, h.right.cell 3 rfl, h.right.cell 4 rfl, h.right.cell 5 rfl⟩
                clear hoat
                go_upto_region 19 with fail
                have hd := hS.drew
                clear hS
                refine Go.Proofs.YtcjlbimmplejjaaGreatDoor.Held.wp_region_held (C7 ag (m1 * 3) (.slice da dpl.length dk) pb (.slice ba bpl.length bk) bt) [15] tr19 (by kernel_rfl) (by kernel_rfl) (HC7.out _ _ hd) ?_
                generalize y2.drew = y3 at *
                unfold tr19
                refine tr_plain (.slice (some ⟨ag, 0, none⟩) m ac) rfl ?_ (by simp only [nthOp, Act.put, List.setIfInBounds_toArray, List.set_cons_succ, List.set_cons_zero]; rfl) ?_
                · exact fun _ => rfl
                refine tr_plain (.int .i64 (m : Nat)) rfl ?_ (by simp only [nthOp, Act.put, List.setIfInBounds_toArray, List.set_cons_succ, List.set_cons_zero]; rfl) ?_
                · exact fun _ => rfl
                refine tr_plain (.int .i64 (m1 : Nat)) rfl ?_ (by simp only [nthOp, Act.put, List.setIfInBounds_toArray, List.set_cons_succ, List.set_cons_zero]; rfl) ?_
                · (intro w'; simp only [nthOp]; go_simp <;> first | done | (rw [IntKind.wrap_i64]; omega) | skip)
                refine tr_plain (.slice (some ⟨ag, 0, none⟩) m ac) rfl ?_ (by simp only [nthOp, Act.put, List.setIfInBounds_toArray, List.set_cons_succ, List.set_cons_zero]; rfl) ?_
                · exact fun _ => rfl
                refine tr_plain (.int .i64 (m : Nat)) rfl ?_ (by simp only [nthOp, Act.put, List.setIfInBounds_toArray, List.set_cons_succ, List.set_cons_zero]; rfl) ?_
                · exact fun _ => rfl
                refine tr_plain (.int .i64 (m1 : Nat)) rfl ?_ (by simp only [nthOp, Act.put, List.setIfInBounds_toArray, List.set_cons_succ, List.set_cons_zero]; rfl) ?_
                · (intro w'; simp only [nthOp]; go_simp <;> first | done | (rw [IntKind.wrap_i64]; omega) | skip)
                refine tr_plain (.pointer (some ⟨ag, m1 * 3, none⟩)) rfl ?_ (by simp only [nthOp, Act.put, List.setIfInBounds_toArray, List.set_cons_succ, List.set_cons_zero]; rfl) ?_
                · (intro w'; simp only [nthOp]; go_simp <;> first | done | (rw [IntKind.wrap_i64]; omega) | skip)
                refine tr_plain (.pointer (some ⟨ag, m1 * 3, none⟩)) rfl ?_ (by simp only [nthOp, Act.put, List.setIfInBounds_toArray, List.set_cons_succ, List.set_cons_zero]; rfl) ?_
                · (intro w'; simp only [nthOp]; go_simp <;> first | done | (rw [IntKind.wrap_i64]; omega) | skip)
                refine tr_held (.slice da dpl.length dk) rfl ?_ (by simp only [nthOp, Act.put, List.setIfInBounds_toArray, List.set_cons_succ, List.set_cons_zero]; rfl) ?_
                · (rintro w' ⟨hc0, hr0, hr1, hr2, hr3, hr4, hr5⟩; simp only [nthOp]; go_simp)
                refine tr_held (.agg #[.int .u8 0, .int .i64 0, .int .i64 0, .string ⟨#[]⟩, (.slice ba bpl.length bk), .int .i64 (bt : Nat)]) rfl ?_ (by simp only [nthOp, Act.put, List.setIfInBounds_toArray, List.set_cons_succ, List.set_cons_zero]; rfl) ?_
                · (rintro w' ⟨hc0, hr0, hr1, hr2, hr3, hr4, hr5⟩; simp only [nthOp]; go_simp)
                refine tr_plain (.int .i64 (dpl.length : Nat)) rfl ?_ (by simp only [nthOp, Act.put, List.setIfInBounds_toArray, List.set_cons_succ, List.set_cons_zero]; rfl) ?_
                · (intro w'; simp only [nthOp]; go_simp <;> first | done | (rw [IntKind.wrap_i64]; omega) | skip)
                have hA := hd.alloc (.cells #[.int .u8 0, .int .i64 0, .int .i64 0, .string ⟨#[]⟩, .slice none 0 0, .int .i64 0] 103 (0, 0))
                obtain ⟨nb, hnb⟩ : ∃ z, y3.heap.size = z := ⟨_, rfl⟩
                rw [hnb] at hA
                clear hd
                refine tr_one ?_
                simp only [nthOp]
                go_wp2_with fail
                simp only [Reg.Next]
                refine ⟨fun _ => HC7.out _ _ hA.right, ?_⟩
                clear hnb
                generalize y3.alloc (.cells #[.int .u8 0, .int .i64 0, .int .i64 0, .string ⟨#[]⟩, .slice none 0 0, .int .i64 0] 103 (0, 0)) = y4 at *
                have hO : St W y4 (star (Row 103 6 (.slice (some ⟨nb, 0, none⟩) 1 1) 1 ([.int .u8 0, .int .i64 0, .int .i64 0, .string ⟨#[]⟩, .slice none 0 0, .int .i64 0])) _) := St.mkRow (size := 6) (n := 1) (cap := 1) (xs := [.int .u8 0, .int .i64 0, .int .i64 0, .string ⟨#[]⟩, .slice none 0 0, .int .i64 0]) hA (Nat.le_refl _) (by unfold maxLen; omega) rfl rfl
                have hone := hO.rowSl
                have hrow := hO.eq (B := (star (Row 103 6 (.slice da dpl.length dk) dpl.length (dpl.flatMap pE)) (star (Row 103 6 (.slice (some ⟨nb, 0, none⟩) 1 1) 1 ([.int .u8 0, .int .i64 0, .int .i64 0, .string ⟨#[]⟩, .slice none 0 0, .int .i64 0])) (star (Row 98 3 (.slice (some ⟨ag, 0, none⟩) m ac) m ((q ++ [(⟨(.slice da dpl.length dk), dpl, dt, dl⟩ : OM)]).flatMap oE)) (star (pt pb (.cells #[.int .u8 0, .int .i64 0, .int .i64 0, .string ⟨#[]⟩, (.slice ba bpl.length bk), .int .i64 (bt : Nat)] 103 (0, 0))) (star (rowO (⟨(.slice ba bpl.length bk), bpl, bt, bl⟩ : OM)) (star (RW q) (star C (star (Row 9 1 (.slice (some ⟨lg, 0, none⟩) ln lc) ln (strsV (lns t))) R))))))))) (by show star _ (star _ (star _ (star (Row 103 6 (.slice da dpl.length dk) dpl.length (dpl.flatMap pE)) _))) = _; ac_rfl)
                clear hA hO
                refine tr_one ?_
                simp only [nthOp]
                go_wp2_with (at_builtin; refine wpList_append_Sl rfl (.tmp 101) (.tmp 104) 58 rfl 103 iP zP 6 72 Tryz.underlying58 hiP p0 p1 p2 rfl _ dpl.length (dpl.flatMap pE) rfl hrow _ 1 ([.int .u8 0, .int .i64 0, .int .i64 0, .string ⟨#[]⟩, .slice none 0 0, .int .i64 0]) rfl hone (by intro u hu; simp only [List.mem_cons, List.not_mem_nil, or_false] at hu; rcases hu with rfl | rfl | rfl | rfl | rfl | rfl <;> rfl) (by unfold maxLen; omega) (by omega) ?_; intro vN wN h9 _)
                simp only [Reg.Next]
                obtain ⟨vg, vk, rfl⟩ := h9.rowHead (by omega)
                have hN := h9.eq (B := (star (Row 103 6 (.slice (some ⟨vg, 0, none⟩) (dpl.length + 1) vk) (dpl.length + 1) (dpl.flatMap pE ++ [.int .u8 0, .int .i64 0, .int .i64 0, .string ⟨#[]⟩, .slice none 0 0, .int .i64 0])) (star (Row 103 6 (.slice (some ⟨nb, 0, none⟩) 1 1) 1 ([.int .u8 0, .int .i64 0, .int .i64 0, .string ⟨#[]⟩, .slice none 0 0, .int .i64 0])) (star (Row 98 3 (.slice (some ⟨ag, 0, none⟩) m ac) m ((q ++ [(⟨(.slice da dpl.length dk), dpl, dt, dl⟩ : OM)]).flatMap oE)) (star (pt pb (.cells #[.int .u8 0, .int .i64 0, .int .i64 0, .string ⟨#[]⟩, (.slice ba bpl.length bk), .int .i64 (bt : Nat)] 103 (0, 0))) (star (rowO (⟨(.slice ba bpl.length bk), bpl, bt, bl⟩ : OM)) (star (RW q) (star C (star (Row 9 1 (.slice (some ⟨lg, 0, none⟩) ln lc) ln (strsV (lns t))) R))))))))) rfl
                have hN := (hN.eq (B := star (Row 103 6 (.slice (some ⟨nb, 0, none⟩) 1 1) 1 ([.int .u8 0, .int .i64 0, .int .i64 0, .string ⟨#[]⟩, .slice none 0 0, .int .i64 0])) (star (Row 98 3 (.slice (some ⟨ag, 0, none⟩) m ac) m ((q ++ [(⟨(.slice da dpl.length dk), dpl, dt, dl⟩ : OM)]).flatMap oE)) (star (pt pb (.cells #[.int .u8 0, .int .i64 0, .int .i64 0, .string ⟨#[]⟩, (.slice ba bpl.length bk), .int .i64 (bt : Nat)] 103 (0, 0))) (star (Row 103 6 (.slice (some ⟨vg, 0, none⟩) (dpl.length + 1) vk) (dpl.length + 1) (dpl.flatMap pE ++ [.int .u8 0, .int .i64 0, .int .i64 0, .string ⟨#[]⟩, .slice none 0 0, .int .i64 0])) (star (rowO (⟨(.slice ba bpl.length bk), bpl, bt, bl⟩ : OM)) (star (RW q) (star C (star (Row 9 1 (.slice (some ⟨lg, 0, none⟩) ln lc) ln (strsV (lns t))) R)))))))) (by ac_rfl)).right
                have hvcap : dpl.length + 1 ≤ vk ∧ vk ≤ 9223372036854775807 := by obtain ⟨_, _, _, hv, h1, h2, _⟩ := h9.rowSl; cases hv; exact ⟨h1, by simpa [maxLen] using h2⟩
                clear h9 hrow hone
                first | refine ⟨HC7.out _ _ hN, ?_⟩ | refine ⟨fun _ => HC7.out _ _ hN, ?_⟩
                refine tr_plain (.pointer (some ⟨ag, m1 * 3, none⟩)) rfl ?_ (by simp only [nthOp, Act.put, List.setIfInBounds_toArray, List.set_cons_succ, List.set_cons_zero]; rfl) ?_
                · (intro w'; simp only [nthOp]; go_simp <;> first | done | (rw [IntKind.wrap_i64]; omega) | skip)
                refine tr_plain (.pointer (some ⟨ag, m1 * 3, none⟩)) rfl ?_ (by simp only [nthOp, Act.put, List.setIfInBounds_toArray, List.set_cons_succ, List.set_cons_zero]; rfl) ?_
                · (intro w'; simp only [nthOp]; go_simp <;> first | done | (rw [IntKind.wrap_i64]; omega) | skip)
                have z0 := (HC7.out _ _ hN).1
                have g0 := hN.rowFree (m1 * 3)
                have hF := hN.rowSet (m1 * 3) (.slice (some ⟨vg, 0, none⟩) (dpl.length + 1) vk)
                clear hN
                refine tr_one ?_
                simp only [nthOp]
                go_wp2_with fail
                simp only [Reg.Next]
                refine ⟨fun h => (by simp at h), ?_⟩
                clear z0 g0
                generalize hwN : World.setCell wN _ _ = y5 at *
                clear hwN
                refine tr_done ?_
                have hR := hF.eq (B := (star (Row 103 6 (.slice (some ⟨vg, 0, none⟩) (dpl.length + 1) vk) (dpl.length + 1) (dpl.flatMap pE ++ [.int .u8 0, .int .i64 0, .int .i64 0, .string ⟨#[]⟩, .slice none 0 0, .int .i64 0])) (star (Row 98 3 (.slice (some ⟨ag, 0, none⟩) m ac) m (((q ++ [(⟨(.slice da dpl.length dk), dpl, dt, dl⟩ : OM)]).flatMap oE).set (m1 * 3) (.slice (some ⟨vg, 0, none⟩) (dpl.length + 1) vk))) (star (pt pb (.cells #[.int .u8 0, .int .i64 0, .int .i64 0, .string ⟨#[]⟩, (.slice ba bpl.length bk), .int .i64 (bt : Nat)] 103 (0, 0))) (star (rowO (⟨(.slice ba bpl.length bk), bpl, bt, bl⟩ : OM)) (star (RW q) (star C (star (Row 9 1 (.slice (some ⟨lg, 0, none⟩) ln lc) ln (strsV (lns t))) R)))))))) (by ac_rfl)
                have hlen6 := flat_len6 dpl
                have hdlt : (dpl.length : Int) < (dpl.length : Int) + 1 := by omega
                have z0 := hR.rowAt (k := dpl.length * 6) (u := .int .u8 0) (by rw [List.getElem?_append_right (by omega), hlen6, show dpl.length * 6 - dpl.length * 6 = 0 from by omega]; rfl)
                have g0 := hR.rowFree (dpl.length * 6)
                have z1 := hR.rowAt (k := dpl.length * 6 + 1) (u := .int .i64 0) (by rw [List.getElem?_append_right (by omega), hlen6, show dpl.length * 6 + 1 - dpl.length * 6 = 1 from by omega]; rfl)
                have g1 := hR.rowFree (dpl.length * 6 + 1)
                have z2 := hR.rowAt (k := dpl.length * 6 + 2) (u := .int .i64 0) (by rw [List.getElem?_append_right (by omega), hlen6, show dpl.length * 6 + 2 - dpl.length * 6 = 2 from by omega]; rfl)
                have g2 := hR.rowFree (dpl.length * 6 + 2)
                have z3 := hR.rowAt (k := dpl.length * 6 + 3) (u := .string ⟨#[]⟩) (by rw [List.getElem?_append_right (by omega), hlen6, show dpl.length * 6 + 3 - dpl.length * 6 = 3 from by omega]; rfl)
                have g3 := hR.rowFree (dpl.length * 6 + 3)
                have z4 := hR.rowAt (k := dpl.length * 6 + 4) (u := .slice none 0 0) (by rw [List.getElem?_append_right (by omega), hlen6, show dpl.length * 6 + 4 - dpl.length * 6 = 4 from by omega]; rfl)
                have g4 := hR.rowFree (dpl.length * 6 + 4)
                have z5 := hR.rowAt (k := dpl.length * 6 + 5) (u := .int .i64 0) (by rw [List.getElem?_append_right (by omega), hlen6, show dpl.length * 6 + 5 - dpl.length * 6 = 5 from by omega]; rfl)
                have g5 := hR.rowFree (dpl.length * 6 + 5)
                have hW := (((((hR.rowSet (dpl.length * 6) (.int .u8 0)).rowSet (dpl.length * 6 + 1) (.int .i64 0)).rowSet (dpl.length * 6 + 2) (.int .i64 0)).rowSet (dpl.length * 6 + 3) (.string ⟨#[]⟩)).rowSet (dpl.length * 6 + 4) (.slice ba bpl.length bk)).rowSet (dpl.length * 6 + 5) (.int .i64 (bt : Nat))
                rw [set6 hlen6] at hW
                clear hF hR
                have hG : St W ((((((y5.setCell ⟨vg, dpl.length * 6, none⟩ (.int .u8 0)).setCell ⟨vg, dpl.length * 6 + 1, none⟩ (.int .i64 0)).setCell ⟨vg, dpl.length * 6 + 2, none⟩ (.int .i64 0)).setCell ⟨vg, dpl.length * 6 + 3, none⟩ (.string ⟨#[]⟩)).setCell ⟨vg, dpl.length * 6 + 4, none⟩ (.slice ba bpl.length bk)).setCell ⟨vg, dpl.length * 6 + 5, none⟩ (.int .i64 (bt : Nat))) (star (Row 98 3 (.slice (some ⟨ag, 0, none⟩) m ac) m ((q ++ [(⟨.slice (some ⟨vg, 0, none⟩) (dpl.length + 1) vk, dpl ++ [(Sm.loop bt (manyS (sms bpl)) (actsS (sms bpl)), (.slice ba bpl.length bk))], dt, dl⟩ : OM)]).flatMap oE)) (star (RW (q ++ [(⟨.slice (some ⟨vg, 0, none⟩) (dpl.length + 1) vk, dpl ++ [(Sm.loop bt (manyS (sms bpl)) (actsS (sms bpl)), (.slice ba bpl.length bk))], dt, dl⟩ : OM)])) (star (star (rowO (⟨(.slice ba bpl.length bk), bpl, bt, bl⟩ : OM)) C) (star (Row 9 1 (.slice (some ⟨lg, 0, none⟩) ln lc) ln (strsV (lns t))) R)))) := by
                  have h5 := hW
                  rw [oset hq _ (dpl ++ [(Sm.loop bt (manyS (sms bpl)) (actsS (sms bpl)), (.slice ba bpl.length bk))])] at h5
                  have h6 := (h5.eq (B := star (pt pb (.cells #[.int .u8 0, .int .i64 0, .int .i64 0, .string ⟨#[]⟩, (.slice ba bpl.length bk), .int .i64 (bt : Nat)] 103 (0, 0))) (star (Row 98 3 (.slice (some ⟨ag, 0, none⟩) m ac) m ((q ++ [(⟨.slice (some ⟨vg, 0, none⟩) (dpl.length + 1) vk, dpl ++ [(Sm.loop bt (manyS (sms bpl)) (actsS (sms bpl)), (.slice ba bpl.length bk))], dt, dl⟩ : OM)]).flatMap oE)) (star (Row 103 6 (.slice (some ⟨vg, 0, none⟩) (dpl.length + 1) vk) (dpl.length + 1) (dpl.flatMap pE ++ pE (Sm.loop bt (manyS (sms bpl)) (actsS (sms bpl)), (.slice ba bpl.length bk)))) (star (rowO (⟨(.slice ba bpl.length bk), bpl, bt, bl⟩ : OM)) (star (RW q) (star C (star (Row 9 1 (.slice (some ⟨lg, 0, none⟩) ln lc) ln (strsV (lns t))) R))))))) (by show star (Row 103 6 (.slice (some ⟨vg, 0, none⟩) (dpl.length + 1) vk) (dpl.length + 1) (dpl.flatMap pE ++ pE (Sm.loop bt (manyS (sms bpl)) (actsS (sms bpl)), (.slice ba bpl.length bk)))) _ = _; ac_rfl)).right
                  refine h6.eq ?_
                  rw [RW_append, RW_one]
                  unfold rowO
                  simp only [List.length_append, List.length_singleton, List.flatMap_append, List.flatMap_cons, List.flatMap_nil, List.append_nil]
                  ac_rfl
                have HG := Lib.hid hG
                clear hW hG hlen6
                go_wp2_with fail
                have hmm : m = m1 + 1 := HM1.out
                subst hmm
                exact ⟨⟨i + 1, m1, ag, ac, _, _, by omega, by omega, by go_num, rfl, by omega, by omega, HI3.out _, HG.out⟩, by simp [intOf]; omega⟩
        have henB : (w0 == [101, 110, 100]) = false := by simpa using hen
        have HAc := Lib.hid (act_any (W := w5) (w := w5) (R := emp) (some ⟨wg, 0, none⟩) wn wk w0 r (by rw [HWN.out]; rfl) (fun x hx => by have := HWL.out x hx; omega) (by omega) hS.rowSl (St.start w5))
        have HS5 := Lib.hid hS
        clear hS
        go_wp2_with fail
        refine HAc.out.mono ?_
        rintro e w6 ⟨x, b, rfl, hact, hxk, h6⟩
        have hS := (HS5.out.past h6.below).right
        clear q0 HAc HS5 h6
        cases b with
        | false =>
          have HAR : Hid (actR (w0 :: r) = none) := Lib.hid hact
          have hA := hS.alloc (.cells #[.int .u8 (x.k : Nat), .int .i64 x.c, .int .i64 x.n, .string ⟨x.s.toArray⟩] 34 (0, 0))
          have HE : Hid (goR (lns t) 0 stR = .error (i + 1)) := Lib.hid (by rw [HST.out]; rw [lineR_no HL.out hti hen HAR.out])
          have HS := Lib.hid hA.right.right.right.right.right
          clear hS hA hact hxk hti hen
          go_wp2
          go_ret3
          exact QPst.err HE.out (by first | rfl | simp) HS.out
        | true =>
          have HAR : Hid (actR (w0 :: r) = some x) := Lib.hid hact
          have hxk1 : 1 ≤ x.k := hxk rfl
          obtain ⟨q, ⟨bv0, bpl, bt, bl⟩, hos⟩ : ∃ q b, os = q ++ [b] := last_one (by rw [HI.out.1]; omega)
          have hq : q.length = m := by
            have h5 := HI.out.1
            rw [hos, List.length_append] at h5
            simpa using h5
          subst hos
          have hS2 := hS.eq (B := (star (rowO ⟨bv0, bpl, bt, bl⟩) (star (RW q) (star (Row 98 3 (.slice (some ⟨ag, 0, none⟩) (m + 1) ac) (m + 1) ((q ++ [(⟨bv0, bpl, bt, bl⟩ : OM)]).flatMap oE)) (star C (star (Row 9 1 (.slice (some ⟨lg, 0, none⟩) ln lc) ln (strsV (lns t))) R)))))) (by
            rw [RW_append, RW_one]; ac_rfl)
          obtain ⟨ba, bk, rfl⟩ : ∃ ba bk, bv0 = .slice ba bpl.length bk := by
            obtain ⟨-, a, k, hv, -⟩ := (St.rowSl (e := 103) (size := 6) (v := bv0) (n := bpl.length) (xs := bpl.flatMap pE) hS2)
            exact ⟨a, k, hv⟩
          have hbcap : bpl.length ≤ bk ∧ bk ≤ 9223372036854775807 := by obtain ⟨_, _, _, hv, h1, h2, _⟩ := (St.rowSl (e := 103) (size := 6) (v := .slice ba bpl.length bk) (n := bpl.length) (xs := bpl.flatMap pE) hS2); cases hv; exact ⟨h1, by simpa [maxLen] using h2⟩
          have hoB := HI.out.2.1.ok (⟨(.slice ba bpl.length bk), bpl, bt, bl⟩ : OM) (by simp)
          have hdl6 : bpl.length ≤ 200000 := by have := hoB.2.2; simp only at this; omega
          have HN : ∀ v', Hid (goR (lns t) 0 stR = goR ((lns t).drop (i + 1)) (i + 1) (stO (q ++ [(⟨v', bpl ++ [(Sm.act x, .slice none 0 0)], bt, bl⟩ : OM)]))) := fun v' => Lib.hid (by
            rw [HST.out, stO_top, stO_top, lineR_act HL.out hti hen HAR.out]
            simp only [oP, sms, List.map_append, List.map_cons, List.map_nil])
          have HI2 : ∀ v', Hid ((q ++ [(⟨v', bpl ++ [(Sm.act x, .slice none 0 0)], bt, bl⟩ : OM)]).length = m + 1 ∧ TI C (q ++ [(⟨v', bpl ++ [(Sm.act x, .slice none 0 0)], bt, bl⟩ : OM)]) (i + 1) ∧ goR (lns t) 0 stR = goR ((lns t).drop (i + 1)) (i + 1) (stO (q ++ [(⟨v', bpl ++ [(Sm.act x, .slice none 0 0)], bt, bl⟩ : OM)]))) := fun v' => Lib.hid ⟨by rw [List.length_append, hq]; rfl, ⟨fun z hz => by
            rcases List.mem_append.1 hz with hz | hz
            · exact HI.out.2.1.lnk z (by simp [hz])
            · simp at hz; subst hz
              exact Lnk.act (HI.out.2.1.lnk (⟨(.slice ba bpl.length bk), bpl, bt, bl⟩ : OM) (by simp)) x _, fun z hz => by
            rcases List.mem_append.1 hz with hz | hz
            · have h5 := HI.out.2.1.ok z (by simp [hz])
              exact ⟨h5.1, h5.2.1, by have := h5.2.2; omega⟩
            · simp at hz; subst hz
              exact ⟨hoB.1.snoc hxk1, hoB.2.1, by have := hoB.2.2; simp only at this; simp only [List.length_append, List.length_singleton]; omega⟩⟩, (HN v').out⟩
          have HI3 := Lib.hid HI2
          have hoat := (oat (r := []) (b := (⟨(.slice ba bpl.length bk), bpl, bt, bl⟩ : OM)) (q := q) (m := m) hq).1
          have hA := hS.alloc (.cells #[.int .u8 (x.k : Nat), .int .i64 x.c, .int .i64 x.n, .string ⟨x.s.toArray⟩] 34 (0, 0))
          obtain ⟨xb, hxb⟩ : ∃ z, w6.heap.size = z := ⟨_, rfl⟩
          rw [hxb] at hA
          have hmlt : (m : Int) < (m : Int) + 1 := by omega
          clear hS hS2 HN HI2 hoB hact hxk hti hen
          go_upto_region 25 with fail
          clear hxb
          generalize w6.alloc (.cells #[.int .u8 (x.k : Nat), .int .i64 x.c, .int .i64 x.n, .string ⟨x.s.toArray⟩] 34 (0, 0)) = v6 at *
          have HC5 : Hid (∀ w A, St W w (star (pt xb (.cells #[.int .u8 (x.k : Nat), .int .i64 x.c, .int .i64 x.n, .string ⟨x.s.toArray⟩] 34 (0, 0))) (star (Row 98 3 (.slice (some ⟨ag, 0, none⟩) (m + 1) ac) (m + 1) ((q ++ [(⟨(.slice ba bpl.length bk), bpl, bt, bl⟩ : OM)]).flatMap oE)) A)) → C5 ag (m * 3) (.slice ba bpl.length bk) xb x w) := Lib.hid fun w A h => ⟨h.right.rowAt hoat, h.cell 0 rfl, h.cell 1 rfl, h.cell 2 rfl, h.cell 3 rfl⟩
          have hd := hA.drew
          clear hA hoat
          refine Go.Proofs.YtcjlbimmplejjaaGreatDoor.Held2.wp_region_held2 (C5 ag (m * 3) (.slice ba bpl.length bk) xb x) [10, 11, 12, 13, 14] tr25 (fun _ => True) [] tr25b (by kernel_rfl) (by kernel_rfl) (HC5.out _ _ hd) ?_
          generalize v6.drew = v7 at *
          unfold tr25
          refine tr_plain (.slice (some ⟨ag, 0, none⟩) (m + 1) ac) rfl ?_ (by simp only [nthOp, Act.put, List.setIfInBounds_toArray, List.set_cons_succ, List.set_cons_zero]; rfl) ?_
          · exact fun _ => rfl
          refine tr_plain (.int .i64 (m : Nat)) rfl ?_ (by simp only [nthOp, Act.put, List.setIfInBounds_toArray, List.set_cons_succ, List.set_cons_zero]; rfl) ?_
          · exact fun _ => rfl
          refine tr_plain (.pointer (some ⟨ag, m * 3, none⟩)) rfl ?_ (by simp only [nthOp, Act.put, List.setIfInBounds_toArray, List.set_cons_succ, List.set_cons_zero]; rfl) ?_
          · (intro w'; simp only [nthOp]; go_simp <;> first | done | (rw [IntKind.wrap_i64]; omega) | skip)
          refine tr_plain (.pointer (some ⟨ag, m * 3, none⟩)) rfl ?_ (by simp only [nthOp, Act.put, List.setIfInBounds_toArray, List.set_cons_succ, List.set_cons_zero]; rfl) ?_
          · (intro w'; simp only [nthOp]; go_simp <;> first | done | (rw [IntKind.wrap_i64]; omega) | skip)
          refine tr_held (.slice ba bpl.length bk) rfl ?_ (by simp only [nthOp, Act.put, List.setIfInBounds_toArray, List.set_cons_succ, List.set_cons_zero]; rfl) ?_
          · (rintro w' ⟨hc0, hr0, hr1, hr2, hr3⟩; simp only [nthOp]; go_simp)
          refine tr_held (.agg #[.int .u8 (x.k : Nat), .int .i64 x.c, .int .i64 x.n, .string ⟨x.s.toArray⟩]) rfl ?_ (by simp only [nthOp, Act.put, List.setIfInBounds_toArray, List.set_cons_succ, List.set_cons_zero]; rfl) ?_
          · (rintro w' ⟨hc0, hr0, hr1, hr2, hr3⟩; simp only [nthOp]; go_simp)
          refine tr_plain (.agg #[.int .u8 (x.k : Nat), .int .i64 x.c, .int .i64 x.n, .string ⟨x.s.toArray⟩, .slice none 0 0, .int .i64 1]) rfl ?_ (by simp only [nthOp, Act.put, List.setIfInBounds_toArray, List.set_cons_succ, List.set_cons_zero]; rfl) ?_
          · (intro w'; simp only [nthOp]; go_simp <;> first | done | (rw [IntKind.wrap_i64]; omega) | skip)
          refine tr_plain (.int .i64 (bpl.length : Nat)) rfl ?_ (by simp only [nthOp, Act.put, List.setIfInBounds_toArray, List.set_cons_succ, List.set_cons_zero]; rfl) ?_
          · (intro w'; simp only [nthOp]; go_simp <;> first | done | (rw [IntKind.wrap_i64]; omega) | skip)
          have hd2 := hd.alloc (.cells #[.int .u8 0, .int .i64 0, .int .i64 0, .string ⟨#[]⟩, .slice none 0 0, .int .i64 0] 103 (0, 0))
          obtain ⟨nb, hnb⟩ : ∃ z, v7.heap.size = z := ⟨_, rfl⟩
          rw [hnb] at hd2
          clear hd
          refine tr_one ?_
          simp only [nthOp]
          go_wp2_with fail
          simp only [Reg.Next]
          refine ⟨fun _ => HC5.out _ _ hd2.right, ?_⟩
          clear hnb
          generalize v7.alloc (.cells #[.int .u8 0, .int .i64 0, .int .i64 0, .string ⟨#[]⟩, .slice none 0 0, .int .i64 0] 103 (0, 0)) = v8 at *
          have hO : St W v8 (star (Row 103 6 (.slice (some ⟨nb, 0, none⟩) 1 1) 1 ([.int .u8 0, .int .i64 0, .int .i64 0, .string ⟨#[]⟩, .slice none 0 0, .int .i64 0])) _) := St.mkRow (size := 6) (n := 1) (cap := 1) (xs := [.int .u8 0, .int .i64 0, .int .i64 0, .string ⟨#[]⟩, .slice none 0 0, .int .i64 0]) hd2 (Nat.le_refl _) (by unfold maxLen; omega) rfl rfl
          have hone := hO.rowSl
          have hrow := hO.eq (B := (star (Row 103 6 (.slice ba bpl.length bk) bpl.length (bpl.flatMap pE)) (star (Row 103 6 (.slice (some ⟨nb, 0, none⟩) 1 1) 1 ([.int .u8 0, .int .i64 0, .int .i64 0, .string ⟨#[]⟩, .slice none 0 0, .int .i64 0])) (star (pt xb (.cells #[.int .u8 (x.k : Nat), .int .i64 x.c, .int .i64 x.n, .string ⟨x.s.toArray⟩] 34 (0, 0))) (star (Row 98 3 (.slice (some ⟨ag, 0, none⟩) (m + 1) ac) (m + 1) ((q ++ [(⟨(.slice ba bpl.length bk), bpl, bt, bl⟩ : OM)]).flatMap oE)) (star (RW q) (star C (star (Row 9 1 (.slice (some ⟨lg, 0, none⟩) ln lc) ln (strsV (lns t))) R)))))))) (by
            rw [RW_append, RW_one]
            show star _ (star _ (star _ (star (star (RW q) (Row 103 6 (.slice ba bpl.length bk) bpl.length (bpl.flatMap pE))) _))) = _; ac_rfl)
          clear hd2 hO
          refine tr_one ?_
          simp only [nthOp]
          go_wp2_with (at_builtin; refine wpList_append_Sl rfl (.tmp 136) (.tmp 140) 58 rfl 103 iP zP 6 72 Tryz.underlying58 hiP p0 p1 p2 rfl _ bpl.length (bpl.flatMap pE) rfl hrow _ 1 ([.int .u8 0, .int .i64 0, .int .i64 0, .string ⟨#[]⟩, .slice none 0 0, .int .i64 0]) rfl hone (by intro u hu; simp only [List.mem_cons, List.not_mem_nil, or_false] at hu; rcases hu with rfl | rfl | rfl | rfl | rfl | rfl <;> rfl) (by unfold maxLen; omega) (by omega) ?_; intro vN wN h9 _)
          simp only [Reg.Next]
          obtain ⟨vg, vk, rfl⟩ := h9.rowHead (by omega)
          have hN := (h9.eq (B := star (Row 103 6 (.slice (some ⟨nb, 0, none⟩) 1 1) 1 ([.int .u8 0, .int .i64 0, .int .i64 0, .string ⟨#[]⟩, .slice none 0 0, .int .i64 0])) (star (pt xb (.cells #[.int .u8 (x.k : Nat), .int .i64 x.c, .int .i64 x.n, .string ⟨x.s.toArray⟩] 34 (0, 0))) (star (Row 98 3 (.slice (some ⟨ag, 0, none⟩) (m + 1) ac) (m + 1) ((q ++ [(⟨(.slice ba bpl.length bk), bpl, bt, bl⟩ : OM)]).flatMap oE)) (star (Row 103 6 (.slice (some ⟨vg, 0, none⟩) (bpl.length + 1) vk) (bpl.length + 1) (bpl.flatMap pE ++ [.int .u8 0, .int .i64 0, .int .i64 0, .string ⟨#[]⟩, .slice none 0 0, .int .i64 0])) (star (RW q) (star C (star (Row 9 1 (.slice (some ⟨lg, 0, none⟩) ln lc) ln (strsV (lns t))) R))))))) (by ac_rfl)).right
          have hvcap : bpl.length + 1 ≤ vk ∧ vk ≤ 9223372036854775807 := by obtain ⟨_, _, _, hv, h1, h2, _⟩ := h9.rowSl; cases hv; exact ⟨h1, by simpa [maxLen] using h2⟩
          clear h9 hrow hone
          first | refine ⟨HC5.out _ _ hN, ?_⟩ | refine ⟨fun _ => HC5.out _ _ hN, ?_⟩
          refine Go.Proofs.YtcjlbimmplejjaaGreatDoor.Held2.tr_next trivial ?_
          unfold tr25b
          have hdlt : (bpl.length : Int) < (bpl.length : Int) + 1 := by omega
          refine tr_plain (.pointer (some ⟨vg, bpl.length * 6, none⟩)) rfl ?_ (by simp only [nthOp, Act.put, List.setIfInBounds_toArray, List.set_cons_succ, List.set_cons_zero]; rfl) ?_
          · (intro w'; simp only [nthOp]; go_simp <;> first | done | (rw [IntKind.wrap_i64]; omega) | skip)
          refine tr_plain (.pointer (some ⟨ag, m * 3, none⟩)) rfl ?_ (by simp only [nthOp, Act.put, List.setIfInBounds_toArray, List.set_cons_succ, List.set_cons_zero]; rfl) ?_
          · (intro w'; simp only [nthOp]; go_simp <;> first | done | (rw [IntKind.wrap_i64]; omega) | skip)
          refine tr_plain (.pointer (some ⟨ag, m * 3, none⟩)) rfl ?_ (by simp only [nthOp, Act.put, List.setIfInBounds_toArray, List.set_cons_succ, List.set_cons_zero]; rfl) ?_
          · (intro w'; simp only [nthOp]; go_simp <;> first | done | (rw [IntKind.wrap_i64]; omega) | skip)
          have hlen6 := flat_len6 bpl
          have cA := (HC5.out _ _ hN).1
          have HSN := Lib.hid hN
          clear hN
          refine tr_two ?_ ?_
          · skip
            have hN := HSN.out.eq (B := (star (Row 103 6 (.slice (some ⟨vg, 0, none⟩) (bpl.length + 1) vk) (bpl.length + 1) (bpl.flatMap pE ++ [.int .u8 0, .int .i64 0, .int .i64 0, .string ⟨#[]⟩, .slice none 0 0, .int .i64 0])) (star (pt xb (.cells #[.int .u8 (x.k : Nat), .int .i64 x.c, .int .i64 x.n, .string ⟨x.s.toArray⟩] 34 (0, 0))) (star (Row 98 3 (.slice (some ⟨ag, 0, none⟩) (m + 1) ac) (m + 1) ((q ++ [(⟨(.slice ba bpl.length bk), bpl, bt, bl⟩ : OM)]).flatMap oE)) (star (RW q) (star C (star (Row 9 1 (.slice (some ⟨lg, 0, none⟩) ln lc) ln (strsV (lns t))) R))))))) (by ac_rfl)
            clear HSN
            have z0 := hN.rowAt (k := bpl.length * 6) (u := .int .u8 0) (by rw [List.getElem?_append_right (by omega), hlen6, show bpl.length * 6 - bpl.length * 6 = 0 from by omega]; rfl)
            have g0 := hN.rowFree (bpl.length * 6)
            have z1 := hN.rowAt (k := bpl.length * 6 + 1) (u := .int .i64 0) (by rw [List.getElem?_append_right (by omega), hlen6, show bpl.length * 6 + 1 - bpl.length * 6 = 1 from by omega]; rfl)
            have g1 := hN.rowFree (bpl.length * 6 + 1)
            have z2 := hN.rowAt (k := bpl.length * 6 + 2) (u := .int .i64 0) (by rw [List.getElem?_append_right (by omega), hlen6, show bpl.length * 6 + 2 - bpl.length * 6 = 2 from by omega]; rfl)
            have g2 := hN.rowFree (bpl.length * 6 + 2)
            have z3 := hN.rowAt (k := bpl.length * 6 + 3) (u := .string ⟨#[]⟩) (by rw [List.getElem?_append_right (by omega), hlen6, show bpl.length * 6 + 3 - bpl.length * 6 = 3 from by omega]; rfl)
            have g3 := hN.rowFree (bpl.length * 6 + 3)
            have z4 := hN.rowAt (k := bpl.length * 6 + 4) (u := .slice none 0 0) (by rw [List.getElem?_append_right (by omega), hlen6, show bpl.length * 6 + 4 - bpl.length * 6 = 4 from by omega]; rfl)
            have g4 := hN.rowFree (bpl.length * 6 + 4)
            have z5 := hN.rowAt (k := bpl.length * 6 + 5) (u := .int .i64 0) (by rw [List.getElem?_append_right (by omega), hlen6, show bpl.length * 6 + 5 - bpl.length * 6 = 5 from by omega]; rfl)
            have g5 := hN.rowFree (bpl.length * 6 + 5)
            have hW := (((((hN.rowSet (bpl.length * 6) (.int .u8 (x.k : Nat))).rowSet (bpl.length * 6 + 1) (.int .i64 x.c)).rowSet (bpl.length * 6 + 2) (.int .i64 x.n)).rowSet (bpl.length * 6 + 3) (.string ⟨x.s.toArray⟩)).rowSet (bpl.length * 6 + 4) (.slice none 0 0)).rowSet (bpl.length * 6 + 5) (.int .i64 1)
            rw [set6 hlen6] at hW
            clear hN
            simp only [nthOp]
            go_wp2_with fail
            simp only [Reg.Next]
            refine ⟨fun _ => trivial, ?_⟩
            clear z0 g0 z1 g1 z2 g2 z3 g3 z4 g4 z5 g5
            generalize ((((((wN.setCell ⟨vg, bpl.length * 6, none⟩ (.int .u8 (x.k : Nat))).setCell ⟨vg, bpl.length * 6 + 1, none⟩ (.int .i64 x.c)).setCell ⟨vg, bpl.length * 6 + 2, none⟩ (.int .i64 x.n)).setCell ⟨vg, bpl.length * 6 + 3, none⟩ (.string ⟨x.s.toArray⟩)).setCell ⟨vg, bpl.length * 6 + 4, none⟩ (.slice none 0 0)).setCell ⟨vg, bpl.length * 6 + 5, none⟩ (.int .i64 1)) = y1 at *
            have hV := hW.eq (B := (star (Row 98 3 (.slice (some ⟨ag, 0, none⟩) (m + 1) ac) (m + 1) ((q ++ [(⟨(.slice ba bpl.length bk), bpl, bt, bl⟩ : OM)]).flatMap oE)) (star (Row 103 6 (.slice (some ⟨vg, 0, none⟩) (bpl.length + 1) vk) (bpl.length + 1) (bpl.flatMap pE ++ [.int .u8 (x.k : Nat), .int .i64 x.c, .int .i64 x.n, .string ⟨x.s.toArray⟩, .slice none 0 0, .int .i64 1])) (star (pt xb (.cells #[.int .u8 (x.k : Nat), .int .i64 x.c, .int .i64 x.n, .string ⟨x.s.toArray⟩] 34 (0, 0))) (star (RW q) (star C (star (Row 9 1 (.slice (some ⟨lg, 0, none⟩) ln lc) ln (strsV (lns t))) R))))))) (by ac_rfl)
            have k0 := (HC5.out _ _ (hV.eq (B := (star (pt xb (.cells #[.int .u8 (x.k : Nat), .int .i64 x.c, .int .i64 x.n, .string ⟨x.s.toArray⟩] 34 (0, 0))) (star (Row 98 3 (.slice (some ⟨ag, 0, none⟩) (m + 1) ac) (m + 1) ((q ++ [(⟨(.slice ba bpl.length bk), bpl, bt, bl⟩ : OM)]).flatMap oE)) (star (Row 103 6 (.slice (some ⟨vg, 0, none⟩) (bpl.length + 1) vk) (bpl.length + 1) (bpl.flatMap pE ++ [.int .u8 (x.k : Nat), .int .i64 x.c, .int .i64 x.n, .string ⟨x.s.toArray⟩, .slice none 0 0, .int .i64 1])) (star (RW q) (star C (star (Row 9 1 (.slice (some ⟨lg, 0, none⟩) ln lc) ln (strsV (lns t))) R))))))) (by ac_rfl))).1
            have f0 := hV.rowFree (m * 3)
            have hF := hV.rowSet (m * 3) (.slice (some ⟨vg, 0, none⟩) (bpl.length + 1) vk)
            clear hV hW cA
            refine tr_one ?_
            simp only [nthOp]
            go_wp2_with fail
            simp only [Reg.Next]
            refine ⟨fun _ => trivial, ?_⟩
            clear k0 f0
            generalize y1.setCell ⟨ag, m * 3, none⟩ (.slice (some ⟨vg, 0, none⟩) (bpl.length + 1) vk) = y2 at *
            refine tr_done ?_
            have hG : St W y2 (star (Row 98 3 (.slice (some ⟨ag, 0, none⟩) (m + 1) ac) (m + 1) ((q ++ [(⟨.slice (some ⟨vg, 0, none⟩) (bpl.length + 1) vk, bpl ++ [(Sm.act x, .slice none 0 0)], bt, bl⟩ : OM)]).flatMap oE)) (star (RW (q ++ [(⟨.slice (some ⟨vg, 0, none⟩) (bpl.length + 1) vk, bpl ++ [(Sm.act x, .slice none 0 0)], bt, bl⟩ : OM)])) (star C (star (Row 9 1 (.slice (some ⟨lg, 0, none⟩) ln lc) ln (strsV (lns t))) R)))) := by
              have h5 := hF
              rw [oset hq _ (bpl ++ [(Sm.act x, .slice none 0 0)])] at h5
              have h6 := (h5.eq (B := star (pt xb (.cells #[.int .u8 (x.k : Nat), .int .i64 x.c, .int .i64 x.n, .string ⟨x.s.toArray⟩] 34 (0, 0))) (star (Row 98 3 (.slice (some ⟨ag, 0, none⟩) (m + 1) ac) (m + 1) ((q ++ [(⟨.slice (some ⟨vg, 0, none⟩) (bpl.length + 1) vk, bpl ++ [(Sm.act x, .slice none 0 0)], bt, bl⟩ : OM)]).flatMap oE)) (star (Row 103 6 (.slice (some ⟨vg, 0, none⟩) (bpl.length + 1) vk) (bpl.length + 1) (bpl.flatMap pE ++ [.int .u8 (x.k : Nat), .int .i64 x.c, .int .i64 x.n, .string ⟨x.s.toArray⟩, .slice none 0 0, .int .i64 1])) (star (RW q) (star C (star (Row 9 1 (.slice (some ⟨lg, 0, none⟩) ln lc) ln (strsV (lns t))) R)))))) (by ac_rfl)).right
              refine h6.eq ?_
              rw [RW_append, RW_one]
              unfold rowO
              simp only [List.length_append, List.length_singleton, List.flatMap_append, List.flatMap_cons, List.flatMap_nil, List.append_nil]
              show star _ (star (Row 103 6 (.slice (some ⟨vg, 0, none⟩) (bpl.length + 1) vk) (bpl.length + 1) (bpl.flatMap pE ++ [.int .u8 (x.k : Nat), .int .i64 x.c, .int .i64 x.n, .string ⟨x.s.toArray⟩, .slice none 0 0, .int .i64 1])) _) = star _ (star (star _ (Row 103 6 (.slice (some ⟨vg, 0, none⟩) (bpl.length + 1) vk) (bpl.length + 1) (bpl.flatMap pE ++ [.int .u8 (x.k : Nat), .int .i64 x.c, .int .i64 x.n, .string ⟨x.s.toArray⟩, .slice none 0 0, .int .i64 1]))) _)
              ac_rfl
            have HG := Lib.hid hG
            clear hF hG hlen6
            go_wp2_with fail
            exact ⟨⟨i + 1, m, ag, ac, _, C, by omega, by omega, by go_num, rfl, by omega, by omega, HI3.out _, HG.out⟩, by simp [intOf]; omega⟩
          · skip
            have hV := HSN.out.eq (B := (star (Row 98 3 (.slice (some ⟨ag, 0, none⟩) (m + 1) ac) (m + 1) ((q ++ [(⟨(.slice ba bpl.length bk), bpl, bt, bl⟩ : OM)]).flatMap oE)) (star (Row 103 6 (.slice (some ⟨vg, 0, none⟩) (bpl.length + 1) vk) (bpl.length + 1) (bpl.flatMap pE ++ [.int .u8 0, .int .i64 0, .int .i64 0, .string ⟨#[]⟩, .slice none 0 0, .int .i64 0])) (star (pt xb (.cells #[.int .u8 (x.k : Nat), .int .i64 x.c, .int .i64 x.n, .string ⟨x.s.toArray⟩] 34 (0, 0))) (star (RW q) (star C (star (Row 9 1 (.slice (some ⟨lg, 0, none⟩) ln lc) ln (strsV (lns t))) R))))))) (by ac_rfl)
            have f0 := hV.rowFree (m * 3)
            have hF := hV.rowSet (m * 3) (.slice (some ⟨vg, 0, none⟩) (bpl.length + 1) vk)
            clear hV HSN
            simp only [nthOp]
            go_wp2_with fail
            simp only [Reg.Next]
            refine ⟨fun _ => trivial, ?_⟩
            clear cA f0
            generalize wN.setCell ⟨ag, m * 3, none⟩ (.slice (some ⟨vg, 0, none⟩) (bpl.length + 1) vk) = y1 at *
            have hN := hF.eq (B := (star (Row 103 6 (.slice (some ⟨vg, 0, none⟩) (bpl.length + 1) vk) (bpl.length + 1) (bpl.flatMap pE ++ [.int .u8 0, .int .i64 0, .int .i64 0, .string ⟨#[]⟩, .slice none 0 0, .int .i64 0])) (star (Row 98 3 (.slice (some ⟨ag, 0, none⟩) (m + 1) ac) (m + 1) (((q ++ [(⟨(.slice ba bpl.length bk), bpl, bt, bl⟩ : OM)]).flatMap oE).set (m * 3) (.slice (some ⟨vg, 0, none⟩) (bpl.length + 1) vk))) (star (pt xb (.cells #[.int .u8 (x.k : Nat), .int .i64 x.c, .int .i64 x.n, .string ⟨x.s.toArray⟩] 34 (0, 0))) (star (RW q) (star C (star (Row 9 1 (.slice (some ⟨lg, 0, none⟩) ln lc) ln (strsV (lns t))) R))))))) (by ac_rfl)
            clear hF
            have z0 := hN.rowAt (k := bpl.length * 6) (u := .int .u8 0) (by rw [List.getElem?_append_right (by omega), hlen6, show bpl.length * 6 - bpl.length * 6 = 0 from by omega]; rfl)
            have g0 := hN.rowFree (bpl.length * 6)
            have z1 := hN.rowAt (k := bpl.length * 6 + 1) (u := .int .i64 0) (by rw [List.getElem?_append_right (by omega), hlen6, show bpl.length * 6 + 1 - bpl.length * 6 = 1 from by omega]; rfl)
            have g1 := hN.rowFree (bpl.length * 6 + 1)
            have z2 := hN.rowAt (k := bpl.length * 6 + 2) (u := .int .i64 0) (by rw [List.getElem?_append_right (by omega), hlen6, show bpl.length * 6 + 2 - bpl.length * 6 = 2 from by omega]; rfl)
            have g2 := hN.rowFree (bpl.length * 6 + 2)
            have z3 := hN.rowAt (k := bpl.length * 6 + 3) (u := .string ⟨#[]⟩) (by rw [List.getElem?_append_right (by omega), hlen6, show bpl.length * 6 + 3 - bpl.length * 6 = 3 from by omega]; rfl)
            have g3 := hN.rowFree (bpl.length * 6 + 3)
            have z4 := hN.rowAt (k := bpl.length * 6 + 4) (u := .slice none 0 0) (by rw [List.getElem?_append_right (by omega), hlen6, show bpl.length * 6 + 4 - bpl.length * 6 = 4 from by omega]; rfl)
            have g4 := hN.rowFree (bpl.length * 6 + 4)
            have z5 := hN.rowAt (k := bpl.length * 6 + 5) (u := .int .i64 0) (by rw [List.getElem?_append_right (by omega), hlen6, show bpl.length * 6 + 5 - bpl.length * 6 = 5 from by omega]; rfl)
            have g5 := hN.rowFree (bpl.length * 6 + 5)
            have hW := (((((hN.rowSet (bpl.length * 6) (.int .u8 (x.k : Nat))).rowSet (bpl.length * 6 + 1) (.int .i64 x.c)).rowSet (bpl.length * 6 + 2) (.int .i64 x.n)).rowSet (bpl.length * 6 + 3) (.string ⟨x.s.toArray⟩)).rowSet (bpl.length * 6 + 4) (.slice none 0 0)).rowSet (bpl.length * 6 + 5) (.int .i64 1)
            rw [set6 hlen6] at hW
            clear hN
            refine tr_one ?_
            simp only [nthOp]
            go_wp2_with fail
            simp only [Reg.Next]
            refine ⟨fun _ => trivial, ?_⟩
            clear z0 g0 z1 g1 z2 g2 z3 g3 z4 g4 z5 g5
            generalize ((((((y1.setCell ⟨vg, bpl.length * 6, none⟩ (.int .u8 (x.k : Nat))).setCell ⟨vg, bpl.length * 6 + 1, none⟩ (.int .i64 x.c)).setCell ⟨vg, bpl.length * 6 + 2, none⟩ (.int .i64 x.n)).setCell ⟨vg, bpl.length * 6 + 3, none⟩ (.string ⟨x.s.toArray⟩)).setCell ⟨vg, bpl.length * 6 + 4, none⟩ (.slice none 0 0)).setCell ⟨vg, bpl.length * 6 + 5, none⟩ (.int .i64 1)) = y2 at *
            have hF := hW.eq (B := (star (Row 98 3 (.slice (some ⟨ag, 0, none⟩) (m + 1) ac) (m + 1) (((q ++ [(⟨(.slice ba bpl.length bk), bpl, bt, bl⟩ : OM)]).flatMap oE).set (m * 3) (.slice (some ⟨vg, 0, none⟩) (bpl.length + 1) vk))) (star (Row 103 6 (.slice (some ⟨vg, 0, none⟩) (bpl.length + 1) vk) (bpl.length + 1) (bpl.flatMap pE ++ [.int .u8 (x.k : Nat), .int .i64 x.c, .int .i64 x.n, .string ⟨x.s.toArray⟩, .slice none 0 0, .int .i64 1])) (star (pt xb (.cells #[.int .u8 (x.k : Nat), .int .i64 x.c, .int .i64 x.n, .string ⟨x.s.toArray⟩] 34 (0, 0))) (star (RW q) (star C (star (Row 9 1 (.slice (some ⟨lg, 0, none⟩) ln lc) ln (strsV (lns t))) R))))))) (by ac_rfl)
            clear hW
            refine tr_done ?_
            have hG : St W y2 (star (Row 98 3 (.slice (some ⟨ag, 0, none⟩) (m + 1) ac) (m + 1) ((q ++ [(⟨.slice (some ⟨vg, 0, none⟩) (bpl.length + 1) vk, bpl ++ [(Sm.act x, .slice none 0 0)], bt, bl⟩ : OM)]).flatMap oE)) (star (RW (q ++ [(⟨.slice (some ⟨vg, 0, none⟩) (bpl.length + 1) vk, bpl ++ [(Sm.act x, .slice none 0 0)], bt, bl⟩ : OM)])) (star C (star (Row 9 1 (.slice (some ⟨lg, 0, none⟩) ln lc) ln (strsV (lns t))) R)))) := by
              have h5 := hF
              rw [oset hq _ (bpl ++ [(Sm.act x, .slice none 0 0)])] at h5
              have h6 := (h5.eq (B := star (pt xb (.cells #[.int .u8 (x.k : Nat), .int .i64 x.c, .int .i64 x.n, .string ⟨x.s.toArray⟩] 34 (0, 0))) (star (Row 98 3 (.slice (some ⟨ag, 0, none⟩) (m + 1) ac) (m + 1) ((q ++ [(⟨.slice (some ⟨vg, 0, none⟩) (bpl.length + 1) vk, bpl ++ [(Sm.act x, .slice none 0 0)], bt, bl⟩ : OM)]).flatMap oE)) (star (Row 103 6 (.slice (some ⟨vg, 0, none⟩) (bpl.length + 1) vk) (bpl.length + 1) (bpl.flatMap pE ++ [.int .u8 (x.k : Nat), .int .i64 x.c, .int .i64 x.n, .string ⟨x.s.toArray⟩, .slice none 0 0, .int .i64 1])) (star (RW q) (star C (star (Row 9 1 (.slice (some ⟨lg, 0, none⟩) ln lc) ln (strsV (lns t))) R)))))) (by ac_rfl)).right
              refine h6.eq ?_
              rw [RW_append, RW_one]
              unfold rowO
              simp only [List.length_append, List.length_singleton, List.flatMap_append, List.flatMap_cons, List.flatMap_nil, List.append_nil]
              show star _ (star (Row 103 6 (.slice (some ⟨vg, 0, none⟩) (bpl.length + 1) vk) (bpl.length + 1) (bpl.flatMap pE ++ [.int .u8 (x.k : Nat), .int .i64 x.c, .int .i64 x.n, .string ⟨x.s.toArray⟩, .slice none 0 0, .int .i64 1])) _) = star _ (star (star _ (Row 103 6 (.slice (some ⟨vg, 0, none⟩) (bpl.length + 1) vk) (bpl.length + 1) (bpl.flatMap pE ++ [.int .u8 (x.k : Nat), .int .i64 x.c, .int .i64 x.n, .string ⟨x.s.toArray⟩, .slice none 0 0, .int .i64 1]))) _)
              ac_rfl
            have HG := Lib.hid hG
            clear hF hG hlen6
            go_wp2_with fail
            exact ⟨⟨i + 1, m, ag, ac, _, C, by omega, by omega, by go_num, rfl, by omega, by omega, HI3.out _, HG.out⟩, by simp [intOf]; omega⟩
    · obtain rfl : ln = i := by omega
      have HEND : Hid (goR (lns t) 0 stR = .ok (stO os)) := Lib.hid (by rw [HI.out.2.2, List.drop_of_length_le (by rw [HLN.out]; exact Nat.le_refl _)]; rfl)
      by_cases hm0 : m = 0
      · subst hm0
        obtain ⟨b, hos⟩ : ∃ b, os = [b] := by
          have h5 := HI.out.1
          match os, h5 with
          | [b], _ => exact ⟨b, rfl⟩
        subst hos
        have c0 := hS.rowAt (k := 0) (u := b.v) rfl
        have HRT : Hid (∀ w, St W w (star (RW [b]) (star C (star emp emp))) → RT w b.v b.pl) := Lib.hid fun w h => by
          rw [RW_one] at h
          exact lnk_row (HI.out.2.1.lnk b (by simp)) (HI.out.2.1.ok b (by simp)).1 W w (star emp emp) (h.eq (by ac_rfl))
        have hrt := HRT.out _ ((hS.eq (B := star (star (Row 98 3 (.slice (some ⟨ag, 0, none⟩) (0 + 1) ac) (0 + 1) ([b].flatMap oE)) (star (Row 9 1 (.slice la ln lc) ln (strsV (lns t))) R)) (star (RW [b]) C)) (by ac_rfl)).right.eq (by rw [star_emp, star_emp]))
        have HR2 := Lib.hid hrt
        have HS := Lib.hid hS.right.right.right.right
        obtain ⟨bv, bpl, bt, bl⟩ := b
        clear hS hrt
        go_wp2
        go_ret3
        unfold QPst
        rw [HEND.out]
        exact ⟨bv, bpl, rfl, rfl, HR2.out, HS.out⟩
      · obtain ⟨q, d, b, hos⟩ : ∃ q d b, os = q ++ [d, b] := last_two (by rw [HI.out.1]; omega)
        have hq : (q ++ [d]).length = m := by
          have h5 := HI.out.1
          rw [hos, List.length_append] at h5
          rw [List.length_append]
          simp only [List.length_cons, List.length_nil] at h5 ⊢; omega
        have hoat := (oat (r := []) (b := b) hq).2.2
        rw [List.append_assoc] at hoat
        have hE2 : Hid (stO os = oP b :: oP d :: stO q) := Lib.hid (by rw [hos, stO_two])
        have hgt : (1 : Int) < (m : Int) + 1 := by omega
        have hmlt : (m : Int) < (m : Int) + 1 := by omega
        have c0 := hS.rowAt (k := m * 3 + 2) (u := .int .i64 (b.line : Nat)) (by rw [hos]; exact hoat)
        have HS := Lib.hid hS.right.right.right.right.drew
        clear hS hoat hos hq
        go_upto_region 27 with fail
        go_big_region
        go_wp2
        go_ret3
        unfold QPst
        rw [HEND.out, hE2.out]
        exact ⟨rfl, HS.out⟩
end Go.Proofs.YtcjlbimmplejjaaGreatDoor.ScTr
