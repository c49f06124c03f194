/-
  A range over a map of the call's own, in the small separation logic: what is left to come is a list of entries, in no order that counts. No program is named here.
-/
import Derived.Test.YtcjlbimmplejjaaGreatDoorMp
namespace Go.Proofs.YtcjlbimmplejjaaGreatDoor.MpR
set_option linter.unusedSectionVars false
open Go Go.RowKit Go.MapKept Go.Proofs Go.Proofs.YtcjlbimmplejjaaGreatDoor.Sep Go.Proofs.YtcjlbimmplejjaaGreatDoor.Mp
open Go.ChangeMaps (setBlock)

theorem filter2 {α β γ : Type} {f : α → γ} {g : β → γ} {p : α → Bool} {q : β → Bool} : ∀ (xs : List α) (ys : List β), xs.map f = ys.map g → (∀ a b, a ∈ xs → f a = g b → p a = q b) → (xs.filter p).map f = (ys.filter q).map g
  | [], [], _, _ => rfl
  | [], _ :: _, h, _ => by cases h
  | _ :: _, [], h, _ => by cases h
  | x :: xs, y :: ys, h, hp => by
    simp only [List.map_cons, List.cons.injEq] at h
    have hq := hp x y (List.mem_cons_self ..) h.1
    have ih := filter2 xs ys h.2 (fun a b ha => hp a b (List.mem_cons_of_mem _ ha))
    rw [List.filter_cons, List.filter_cons, hq]
    split
    · rw [List.map_cons, List.map_cons, ih, h.1]
    · exact ih
section
variable {κ : Type} [DecidableEq κ] {P : Program} {W w : World} {d : TypeDesc} {enc : κ → Value} {b r : Nat} {es left : List (κ × Value)} {cur : Option (κ × Value)} {R : Asn} {t kt et : TypeId}
/-- A map and an iterator over it: what is left; the entry that came last. -/
def Rg (enc : κ → Value) (b r : Nat) (es left : List (κ × Value)) (cur : Option (κ × Value)) : Asn := fun h =>
  ∃ (arr : Array MapEntry) (clock since : Nat) (seen : Array Nat) (c : Nat), Stamped arr clock ∧ arr.toList.map (fun x => (x.key, x.val)) = es.map (fun e => (enc e.1, e.2)) ∧ (∀ x ∈ arr.toList, x.born < since) ∧ (since ≤ c ∧ since ≤ clock) ∧
    (leftOf arr seen).toList.map (fun x => (x.key, x.val)) = left.map (fun e => (enc e.1, e.2)) ∧ (∀ e, cur = some e → c = clock ∧ ∃ x ∈ arr.toList, ∃ s : Array Nat, seen = s.push x.born ∧ x.key = enc e.1 ∧ x.val = e.2) ∧
    star (pt b (.map arr clock)) (pt r (.mapIter (some b) since seen c)) h
theorem St.rg (h : St W w (star (Rg enc b r es left cur) R)) : ∃ (arr : Array MapEntry) (clock since : Nat) (seen : Array Nat) (c : Nat), Stamped arr clock ∧ arr.toList.map (fun x => (x.key, x.val)) = es.map (fun e => (enc e.1, e.2)) ∧ (∀ x ∈ arr.toList, x.born < since) ∧ (since ≤ c ∧ since ≤ clock) ∧
    (leftOf arr seen).toList.map (fun x => (x.key, x.val)) = left.map (fun e => (enc e.1, e.2)) ∧ (∀ e, cur = some e → c = clock ∧ ∃ x ∈ arr.toList, ∃ s : Array Nat, seen = s.push x.born ∧ x.key = enc e.1 ∧ x.val = e.2) ∧
    St W w (star (pt b (.map arr clock)) (star (pt r (.mapIter (some b) since seen c)) R)) := by
  obtain ⟨hb, k, ⟨h1, h2, dj, e, ⟨arr, clock, since, seen, c, s1, s2, s3, s4, s5, s6, a⟩, r'⟩, f⟩ := h
  exact ⟨arr, clock, since, seen, c, s1, s2, s3, s4, s5, s6, St.eq (A := star (star (pt b (.map arr clock)) (pt r (.mapIter (some b) since seen c))) R) ⟨hb, k, ⟨h1, h2, dj, e, a, r'⟩, f⟩ (star_assoc _ _ _)⟩
theorem St.mkRg {arr : Array MapEntry} {clock since : Nat} {seen : Array Nat} {c : Nat} (s1 : Stamped arr clock) (s2 : arr.toList.map (fun x => (x.key, x.val)) = es.map (fun e => (enc e.1, e.2))) (s3 : ∀ x ∈ arr.toList, x.born < since) (s4 : since ≤ c ∧ since ≤ clock)
    (s5 : (leftOf arr seen).toList.map (fun x => (x.key, x.val)) = left.map (fun e => (enc e.1, e.2))) (s6 : ∀ e, cur = some e → c = clock ∧ ∃ x ∈ arr.toList, ∃ s : Array Nat, seen = s.push x.born ∧ x.key = enc e.1 ∧ x.val = e.2)
    (h : St W w (star (pt b (.map arr clock)) (star (pt r (.mapIter (some b) since seen c)) R))) : St W w (star (Rg enc b r es left cur) R) := by
  refine (h.eq (star_assoc _ _ _).symm).weak fun k => ?_
  rintro ⟨h1, h2, dj, e', a, r'⟩
  exact ⟨h1, h2, dj, e', ⟨arr, clock, since, seen, c, s1, s2, s3, s4, s5, s6, a⟩, r'⟩
/-- The map alone. -/
theorem St.rgMp (h : St W w (star (Rg enc b r es left cur) R)) : St W w (star (Mp enc b es) R) := by
  obtain ⟨arr, clock, since, seen, c, s1, s2, _, _, _, _, h'⟩ := St.rg h
  exact Mp.St.mkMp s1 s2 ((h'.eq (star_left_comm _ _ _)).right)
/-- 'range'. -/
theorem run_range (ht : P.underlying t = some (.map kt et)) (h : St W w (star (Mp enc b es) R)) :
    ∃ w', (Instr.range t (.map (some b))).run P w = .ok (.pointer (some ⟨w.heap.size, 0, none⟩)) w' ∧ St W w' (star (Rg enc b w.heap.size es es none) R) := by
  obtain ⟨arr, clock, s, e, hp⟩ := St.mp h
  refine ⟨_, run_range_map w t kt et b arr clock ht hp.blk, ?_⟩
  refine St.mkRg s e s.1 ⟨Nat.le_refl _, Nat.le_refl _⟩ ?_ (fun _ h => by cases h) ((hp.alloc _).swap)
  have : leftOf arr #[] = arr := by unfold leftOf; exact Array.filter_eq_self.2 (fun x _ => by simp)
  rw [this]; exact e
/-- 'next'. -/
theorem run_next (C : KeyC d enc) (h : St W w (star (Rg enc b r es left cur) R)) (ty : TypeId) :
    (left = [] ∧ (Instr.next (.pointer (some ⟨r, 0, none⟩)) false ty).run P w = .ok (.tuple #[.bool false]) w) ∨
    ∃ (e : κ × Value) (left' : List (κ × Value)) (w' : World), e ∈ left ∧ e ∈ es ∧ left'.length < left.length ∧ (∀ x, x ∈ left' ↔ x ∈ left ∧ x.1 ≠ e.1) ∧
      (Instr.next (.pointer (some ⟨r, 0, none⟩)) false ty).run P w = .ok (.tuple #[.bool true, enc e.1, e.2]) w' ∧ St W w' (star (Rg enc b r es left' (some e)) R) := by
  obtain ⟨arr, clock, since, seen, c, s1, s2, s3, s4, s5, s6, hp⟩ := St.rg h
  rcases run_next_at (P := P) w ty r b since c seen arr clock hp.right.blk hp.blk s3 s4.1 with ⟨h1, h2⟩ | ⟨x, hx, w1, hw1, h2⟩
  · left
    refine ⟨?_, h2⟩
    have := congrArg List.length s5
    simp [h1] at this
    exact List.length_eq_zero_iff.1 this.symm
  · right
    obtain ⟨y, hy, k1, k2⟩ := ent_mem s5 hx
    have hxa : x ∈ arr.toList := by unfold leftOf at hx; simp at hx ⊢; exact hx.1
    obtain ⟨z, hz, z1, z2⟩ := ent_mem s2 hxa
    have hzy : z = y := Prod.ext (C.inj _ _ (z1.symm.trans k1)) (z2.symm.trans k2)
    have hl : (leftOf arr (seen.push x.born)).toList = (leftOf arr seen).toList.filter (fun e => !(e.born == x.born)) := by
      unfold leftOf
      rw [Array.toList_filter, Array.toList_filter, List.filter_filter]
      refine List.filter_congr fun e _ => ?_
      simp only [Array.contains_push, Bool.not_or]
      rw [Bool.and_comm]
    have hlN : ∀ e ∈ (leftOf arr seen).toList, e ∈ arr.toList := fun e he => by unfold leftOf at he; simp at he ⊢; exact he.1
    have hbk : ∀ e ∈ (leftOf arr seen).toList, e.born = x.born ↔ e.key = x.key := fun e he => by
      have hea := hlN e he
      have key : ∀ {β : Type} (f : MapEntry → β), (arr.toList.map f).Nodup → f e = f x → e = x := fun f hf hq => by
        obtain ⟨i, hi, rfl⟩ := List.getElem_of_mem hea
        obtain ⟨j, hj, hxj⟩ := List.getElem_of_mem hxa
        rw [← hxj] at hq ⊢
        rcases Nat.lt_trichotomy i j with hij | hij | hij
        · exact absurd (by rw [List.getElem_map, List.getElem_map]; exact hq) (List.pairwise_iff_getElem.1 hf i j (by simpa using hi) (by simpa using hj) hij)
        · subst hij; rfl
        · exact absurd (by rw [List.getElem_map, List.getElem_map]; exact hq.symm) (List.pairwise_iff_getElem.1 hf j i (by simpa using hj) (by simpa using hi) hij)
      exact ⟨fun hb => by rw [key (·.born) s1.2.1 hb], fun hk => by rw [key (·.key) s1.2.2 hk]⟩
    have hs5 : (leftOf arr (seen.push x.born)).toList.map (fun x => (x.key, x.val)) = (left.filter fun e => decide (e.1 ≠ y.1)).map (fun e => (enc e.1, e.2)) := by
      rw [hl]
      refine filter2 _ _ s5 fun e z he hz => ?_
      have hzk : e.key = enc z.1 := congrArg Prod.fst hz
      by_cases hb : e.born = x.born
      · have := (hbk e he).1 hb
        have hzy : z.1 = y.1 := C.inj _ _ (hzk.symm.trans (this.trans k1))
        simp [hb, hzy]
      · have hzy : z.1 ≠ y.1 := fun h => hb ((hbk e he).2 (by rw [hzk, h, k1]))
        simp [hb, hzy]
    have hst : St W w1 (star (pt b (.map arr clock)) (star (pt r (.mapIter (some b) since seen c)) R)) := by
      rcases hw1 with rfl | rfl
      · exact hp
      · exact hp.drew
    have hr1 := hst.right.blk
    have hfin : St W (setBlock w1 r (.mapIter (some b) since (seen.push x.born) clock)) (star (pt r (.mapIter (some b) since (seen.push x.born) clock)) (star (pt b (.map arr clock)) R)) :=
      (hst.eq (star_left_comm _ _ _)).turn rfl rfl rfl (by simp [setBlock]) (fun k _ hk => (heap_set hr1).2 k hk) (heap_set hr1).1
    refine ⟨y, left.filter fun e => decide (e.1 ≠ y.1), _, hy, hzy ▸ hz, ?_, ?_, by rw [← k1, ← k2]; exact h2, St.mkRg s1 s2 s3 ⟨s4.2, s4.2⟩ hs5 (fun e he => ?_) (hfin.eq (star_left_comm _ _ _))⟩
    · refine Nat.lt_of_le_of_ne (List.length_filter_le _ _) fun he => ?_
      have := (List.length_filter_eq_length_iff.1 he) y hy
      simp at this
    · intro x; simp [List.mem_filter]
    · cases he
      exact ⟨rfl, x, hxa, seen, rfl, k1, k2⟩
/-- The round's key and value. -/
theorem run_entry {e : κ × Value} (h : St W w (star (Rg enc b r es left (some e)) R)) : (Instr.entry (.pointer (some ⟨r, 0, none⟩))).run P w = .ok (.tuple #[enc e.1, e.2]) w := by
  obtain ⟨arr, clock, since, seen, c, s1, s2, s3, s4, s5, s6, hp⟩ := St.rg h
  obtain ⟨rfl, x, hx, s, rfl, k1, k2⟩ := s6 e rfl
  rw [← k1, ← k2]
  exact run_entry_at w r b since s arr c x hp.right.blk hp.blk hx s1.2.1

/-- How many are left, off the world. -/
def leftN (w : World) (b r : Nat) : Nat := match w.heap[b]?, w.heap[r]? with
  | some (.map arr _), some (.mapIter _ _ seen _) => (leftOf arr seen).size
  | _, _ => 0
theorem leftN_eq (h : St W w (star (Rg enc b r es left cur) R)) : leftN w b r = left.length := by
  obtain ⟨arr, clock, since, seen, c, s1, s2, s3, s4, s5, s6, hp⟩ := St.rg h
  unfold leftN
  rw [hp.blk, hp.right.blk]
  have := congrArg List.length s5
  simpa using this
variable {ops : Array Oper} {rest : List Oper} {o : Oper} {a : Act} {Q : Exit → Act → World → Prop}
theorem wpList_range (hg : o.guard = none) (m : Operand) (hop : o.op = Op.range t m) (ht : P.underlying t = some (.map kt et)) (hm : a.eval m = .map (some b)) (h : St W w (star (Mp enc b es) R))
    (hK : ∀ w', St W w' (star (Rg enc b w.heap.size es es none) R) → wpList P ops Q rest (a.put o.dst (.pointer (some ⟨w.heap.size, 0, none⟩))) w') : wpList P ops Q (o :: rest) a w := by
  refine wpList_plain hg fun K' hK' => ?_
  obtain ⟨w', hrun, h'⟩ := run_range ht h
  unfold Oper.wp
  simp [execOp, hop, hm, hrun, Result.andThen]
  exact hK' _ _ (hK w' h')
theorem wpList_next (C : KeyC d enc) (hg : o.guard = none) (it : Operand) (hop : o.op = Op.next it false) (hm : a.eval it = .pointer (some ⟨r, 0, none⟩)) (h : St W w (star (Rg enc b r es left cur) R))
    (h0 : left = [] → wpList P ops Q rest (a.put o.dst (.tuple #[.bool false])) w)
    (h1 : ∀ (e : κ × Value) (left' : List (κ × Value)) (w' : World), e ∈ left → e ∈ es → left'.length < left.length → (∀ x, x ∈ left' ↔ x ∈ left ∧ x.1 ≠ e.1) → St W w' (star (Rg enc b r es left' (some e)) R) →
      wpList P ops Q rest (a.put o.dst (.tuple #[.bool true, enc e.1, e.2])) w') : wpList P ops Q (o :: rest) a w := by
  refine wpList_plain hg fun K' hK' => ?_
  rcases run_next (P := P) C h o.type with ⟨hl, hrun⟩ | ⟨e, left', w', he, hes, hlt, hlx, hrun, h'⟩
  · unfold Oper.wp
    simp [execOp, hop, hm, hrun, Result.andThen]
    exact hK' _ _ (h0 hl)
  · unfold Oper.wp
    simp [execOp, hop, hm, hrun, Result.andThen]
    exact hK' _ _ (h1 e left' w' he hes hlt hlx h')
end
end Go.Proofs.YtcjlbimmplejjaaGreatDoor.MpR
