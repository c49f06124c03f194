/-
  A region that draws its order, in which what reads is taken first though others write beside it: what it reads is held by a word C on worlds, which each of the others leaves true. No program is named here.
-/
import Derived.Test.YtcjlbimmplejjaaGreatDoorFork
namespace Go.Proofs.YtcjlbimmplejjaaGreatDoor.Held
open Go Go.Proofs.YtcjlbimmplejjaaGreatDoor.Reg Go.Proofs.YtcjlbimmplejjaaGreatDoor.Fork Region

section
variable {P : Program} {ops : Array Oper} {Q : Exit → Act → World → Prop} {C : World → Prop} {E : List Nat}

/-- In state a operation o leaves v in whatever world C holds of. -/
def YC (P : Program) (ops : Array Oper) (C : World → Prop) (o : Oper) (v : Value) (a : Act) : Prop :=
  (Region.wanted o (yielded ops a.tmps) = true ∧ ∀ w, C w → (execOp a.eval o).run P w = .ok (.value v) w) ∨ (Region.wanted o (yielded ops a.tmps) = false ∧ v = undef)
theorem YC.same {o : Oper} {v : Value} {a a' : Act} (h : YC P ops C o v a) (he : execOp a'.eval o = execOp a.eval o) (hw : Region.wanted o (yielded ops a'.tmps) = Region.wanted o (yielded ops a.tmps)) : YC P ops C o v a' := by
  unfold YC at *; rw [he, hw]; exact h
theorem YC.take {i : Nat} {o : Oper} {v : Value} {a : Act} {w : World} (hi : ops[i]? = some o) (hy : YC P ops C o v a) (hw : C w) {K : Act → World → Prop} (h : K (a.put o.dst v) w) : wpOp P ops Q i K a w := by
  unfold Go.wpOp
  simp only [hi]
  rcases hy with ⟨h1, h2⟩ | ⟨h1, rfl⟩
  · rw [if_pos h1]
    left
    unfold Oper.wp
    rw [h2 w hw]
    exact h
  · rw [h1]; exact h
/-- What another operation does is the same with the held one ahead of it. -/
theorem held_put {j : Nat} {oi oj : Oper} {v : Value} (hj : ops[j]? = some oj) (hap : oi.apart ops oj = true) (hsi : ∀ cs b, oi.op ≠ .select cs b) (hsj : ∀ cs b, oj.op ≠ .select cs b) {K : Act → World → Prop} {a : Act} {w : World}
    (hy : YC P ops C oi v a) (h : wpOp P ops (Only Q) j K (a.put oi.dst v) w) : wpOp P ops (Only Q) j (fun a' w' => YC P ops C oi v a' ∧ K (a'.put oi.dst v) w') a w := by
  obtain ⟨h1, h2, h3⟩ := Oper.apart_spec hap
  have kp : ∀ u, YC P ops C oi v (a.put oj.dst u) := fun u => hy.same (execOp_put oi hsi a oj.dst u h3) (wanted_put oi a oj.dst u h3)
  have cm : ∀ u w', K ((a.put oi.dst v).put oj.dst u) w' → K ((a.put oj.dst u).put oi.dst v) w' := fun u w' hK => by rw [← Act.put_comm a v u h2]; exact hK
  unfold Go.wpOp at h ⊢
  simp only [hj] at h ⊢
  rw [wanted_put oj a oi.dst v h1] at h
  by_cases hw : Region.wanted oj (yielded ops a.tmps) = true
  · rw [if_pos hw] at h ⊢
    rcases h with h | ⟨_, _, _, h⟩
    · left
      unfold Oper.wp at h ⊢
      rw [execOp_put oj hsj a oi.dst v h1] at h
      cases hr : (execOp a.eval oj).run P w with
      | halt x w' =>
        rw [hr] at h
        cases x <;> exact (h : False).elim
      | ok n w' =>
        rw [hr] at h
        cases n with
        | value u => exact ⟨kp u, cm u w' h⟩
        | skip => exact ⟨kp undef, cm undef w' h⟩
        | defer d =>
          refine ⟨YC.same hy ?_ ?_, ?_⟩
          · exact execOp_put oi hsi { a with defers := d :: a.defers } oj.dst undef h3
          · exact wanted_put oi { a with defers := d :: a.defers } oj.dst undef h3
          · rw [← Act.put_comm _ v undef h2, ← Act.put_defers]; exact h
        | enter f args =>
          refine Calls.mono h fun e w'' he => ?_
          cases e with
          | returned u => exact ⟨kp u, cm u w'' he⟩
          | panicked c => exact (he : False).elim
          | outgrown => exact he
        | row r args => exact Rows.mono h fun u w'' he => ⟨kp u, cm u w'' he⟩
        | _ => exact (h : False).elim
    · exact (h : False).elim
  · rw [if_neg hw] at h ⊢
    exact ⟨kp undef, cm undef w h⟩

/-- Whatever order; behind each operation that is not in E the world bears C. -/
def wpAnyC (P : Program) (ops : Array Oper) (C : World → Prop) (E : List Nat) (Q : Exit → Act → World → Prop) : Nat → Array Bool → Act → World → Prop
  | 0, listed, a, w => Region.ready .any ops listed = [] ∧ Q .normal a w
  | f + 1, listed, a, w => Region.ready .any ops listed ≠ [] ∧ ∀ i ∈ Region.ready .any ops listed, wpOp P ops (Only Q) i (fun a' w' => (E.contains i = false → C w') ∧ wpAnyC P ops C E Q f (listed.setIfInBounds i true) a' w') a w
theorem wpAny_of_C : ∀ (f : Nat) (listed : Array Bool) (a : Act) (w : World), wpAnyC P ops C E Q f listed a w → wpAny P .any ops (Only Q) f listed a w
  | 0, _, _, _, h => ⟨h.1, h.2⟩
  | f + 1, _, _, _, h => ⟨fun h0 => absurd h0 h.1, fun i hi => wpOp_mono (fun a' w' h' => wpAny_of_C f _ a' w' h'.2) (h.2 i hi)⟩

/-- Whatever may come ahead of i is not in E. -/
def heldFree (ops : Array Oper) (E : List Nat) (listed : Array Bool) (i : Nat) : Bool :=
  let A := availOf .any ops listed i
  (List.range ops.size).all fun j => j == i || listed.getD j true || match ops[j]? with
    | some oj => !(oj.after.all fun e => !Region.binds .any e || listed.getD e.on false || A.getD e.on false) || (A.getD j false && !E.contains j)
    | none => true
def heldFree' (ops : Array Oper) (E : List Nat) (listed A : Array Bool) (i : Nat) : Prop :=
  ∀ j oj, ops[j]? = some oj → j ≠ i → listed.getD j true = false → (∀ e ∈ oj.after, Region.binds .any e = true → listed.getD e.on false = true ∨ A.getD e.on false = true) → A.getD j false = true ∧ E.contains j = false
theorem heldFree_spec {listed : Array Bool} {i : Nat} (h : heldFree ops E listed i = true) : heldFree' ops E listed (availOf .any ops listed i) i := by
  intro j oj hj hne hun hall
  unfold heldFree at h
  have h1 := List.all_eq_true.1 h j (List.mem_range.2 (Array.getElem?_eq_some_iff.1 hj).1)
  simp only [hj, Bool.or_eq_true, beq_iff_eq, hne, false_or, hun, Bool.false_eq_true, Bool.and_eq_true, Bool.not_eq_true'] at h1
  rcases h1 with h1 | h1
  · rw [Array.all_eq_false] at h1
    obtain ⟨n, hn, hx⟩ := h1
    simp only [Bool.or_eq_true, Bool.not_eq_true', not_or, Bool.not_eq_false, Bool.not_eq_true] at hx
    rcases hall _ (Array.getElem_mem hn) hx.1.1 with h' | h'
    · rw [h'] at hx; cases hx.1.2
    · rw [h'] at hx; cases hx.2
  · exact h1

theorem held_take {i : Nat} {oi : Oper} {v : Value} {listed0 A : Array Bool} (hi : ops[i]? = some oi) (hs : Region.noSelect ops = true) (hA : heldFree' ops E listed0 A i) :
    ∀ (f : Nat) (listed : Array Bool) (a : Act) (w : World), C w →
      (∀ k, listed.getD k true = false → listed0.getD k true = false) → (∀ k, listed.getD k false = true → listed0.getD k false = true ∨ A.getD k false = true) →
      (∀ j oj, ops[j]? = some oj → j ≠ i → listed.getD j true = false → (∀ e ∈ oj.after, Region.binds .any e = true → e.on ≠ i) → oi.apart ops oj = true) →
      i ∈ Region.ready .any ops listed → YC P ops C oi v a →
      wpAnyC P ops C E Q f (listed.setIfInBounds i true) (a.put oi.dst v) w → wpAnyC P ops C E Q (f + 1) listed a w := by
  have hsel := Region.noSelect_spec hs
  intro f
  induction f with
  | zero =>
    intro listed a w hC _ _ _ hr hy H
    refine ⟨fun h => (by rw [h] at hr; cases hr), fun j hj => ?_⟩
    by_cases hji : j = i
    · subst hji; exact hy.take hi hC ⟨fun _ => hC, H⟩
    · have := ready_mono hj hji
      rw [H.1] at this
      cases this
  | succ f ih =>
    intro listed a w hC hun0 hsub hfree hr hy H
    refine ⟨fun h => (by rw [h] at hr; cases hr), fun j hj => ?_⟩
    by_cases hji : j = i
    · subst hji; exact hy.take hi hC ⟨fun _ => hC, H⟩
    · have h1 := H.2 j (ready_mono hj hji)
      obtain ⟨hjun, oj, hoj, hall⟩ := mem_ready.1 hj
      have hnot : ∀ e ∈ oj.after, Region.binds .any e = true → e.on ≠ i := fun e he hb heq => by
        have h1 := hall e he hb
        have h0 := (mem_ready.1 hr).1
        rw [heq] at h1
        rcases Nat.lt_or_ge i listed.size with h' | h'
        · simp [h'] at h0 h1; rw [h0] at h1; cases h1
        · simp [Array.getElem?_eq_none h'] at h1
      obtain ⟨hAj, hEj⟩ := hA j oj hoj hji (hun0 j hjun) (fun e he hb => hsub _ (hall e he hb))
      have h2 := held_put hoj (hfree j oj hoj hji hjun hnot) (fun cs b => hsel i oi cs b hi) (fun cs b => hsel j oj cs b hoj) hy h1
      refine wpOp_mono (fun a' w' h3 => ?_) h2
      have hC' := h3.2.1 hEj
      refine ⟨fun _ => hC', ih (listed.setIfInBounds j true) a' w' hC' ?_ ?_ ?_ (ready_mono hr (Ne.symm hji)) h3.1 ?_⟩
      · intro k hk
        by_cases hjk : j = k
        · subst hjk; exact hun0 j hjun
        · rw [getD_set_ne true hjk] at hk; exact hun0 k hk
      · intro k hk
        by_cases hjk : j = k
        · subst hjk; exact .inr hAj
        · rw [getD_set_ne false hjk] at hk; exact hsub k hk
      · intro k ok hk hki hun hno
        refine hfree k ok hk hki ?_ hno
        by_cases hjk : j = k
        · subst hjk; exact hjun
        · rw [getD_set_ne true hjk] at hun; exact hun
      · rw [Array.setIfInBounds_comm _ _ hji]
        exact h3.2.2

/-- How a region is walked: what computes; what is held; the only one that may come; one of two. -/
inductive Tr where
  | done : Tr
  | plain (i : Nat) (t : Tr) : Tr
  | held (i : Nat) (t : Tr) : Tr
  | one (i : Nat) (t : Tr) : Tr
  | two (i : Nat) (t : Tr) (j : Nat) (u : Tr) : Tr
def wpTr (P : Program) (ops : Array Oper) (l : List Oper) (C : World → Prop) (E : List Nat) (Q : Exit → Act → World → Prop) : Tr → Act → World → Prop
  | .done, a, w => Q .normal a w
  | .plain i t, a, w => (nthOp l i).guard = none ∧ ∃ v, (∀ w', (execOp a.eval (nthOp l i)).run P w' = .ok (.value v) w') ∧ wpTr P ops l C E Q t (a.put (nthOp l i).dst v) w
  | .held i t, a, w => (nthOp l i).guard = none ∧ ∃ v, (∀ w', C w' → (execOp a.eval (nthOp l i)).run P w' = .ok (.value v) w') ∧ wpTr P ops l C E Q t (a.put (nthOp l i).dst v) w
  | .one i t, a, w => wpList P ops (Reg.Next fun a' w' => (E.contains i = false → C w') ∧ wpTr P ops l C E Q t a' w') [nthOp l i] a w
  | .two i t j u, a, w => wpList P ops (Reg.Next fun a' w' => (E.contains i = false → C w') ∧ wpTr P ops l C E Q t a' w') [nthOp l i] a w ∧
      wpList P ops (Reg.Next fun a' w' => (E.contains j = false → C w') ∧ wpTr P ops l C E Q u a' w') [nthOp l j] a w
/-- Does the tree begin with what is held? -/
def nowC : Tr → Bool
  | .plain .. => true
  | .held .. => true
  | _ => false
def trB (ops : Array Oper) (E : List Nat) : Tr → Array Bool → Nat → Bool
  | .done, listed, n => (Region.ready .any ops listed).isEmpty && n == 0
  | .plain i t, listed, n => (Region.ready .any ops listed).contains i && Region.free .any ops listed i && heldFree ops E listed i && n != 0 && trB ops E t (listed.setIfInBounds i true) (n - 1)
  | .held i t, listed, n => (Region.ready .any ops listed).contains i && Region.free .any ops listed i && heldFree ops E listed i && n != 0 && trB ops E t (listed.setIfInBounds i true) (n - 1)
  | .one i t, listed, n => Region.ready .any ops listed == [i] && n != 0 && !(E.contains i && nowC t) && trB ops E t (listed.setIfInBounds i true) (n - 1)
  | .two i t j u, listed, n => Region.ready .any ops listed == [i, j] && n != 0 && !(E.contains i && nowC t) && !(E.contains j && nowC u) && trB ops E t (listed.setIfInBounds i true) (n - 1) && trB ops E u (listed.setIfInBounds j true) (n - 1)

theorem wpOp_one {K : Act → World → Prop} {i : Nat} {o : Oper} {a : Act} {w : World} (ho : ops[i]? = some o) (h : wpList P ops (Reg.Next K) [nthOp ops.toList i] a w) : wpOp P ops (Only Q) i K a w := by
  refine only_of_next (K := K) ?_
  have hn : nthOp ops.toList i = o := nthOp_get _ _ _ (by simpa using ho)
  rw [hn] at h
  unfold Go.wpOp
  simp only [ho]
  simpa only [wpList, Reg.Next] using h

theorem tr_sound (hs : Region.noSelect ops = true) : ∀ (t : Tr) (n : Nat) (listed : Array Bool) (a : Act) (w : World), trB ops E t listed n = true → (nowC t = true → C w) → wpTr P ops ops.toList C E Q t a w → wpAnyC P ops C E Q n listed a w
  | .done, n, listed, a, w, hB, _, h => by
    simp only [trB, Bool.and_eq_true, beq_iff_eq] at hB
    obtain ⟨h1, rfl⟩ := hB
    exact ⟨by simpa using h1, h⟩
  | .plain i t, n, listed, a, w, hB, hC, h => by
    simp only [trB, Bool.and_eq_true, bne_iff_ne] at hB
    obtain ⟨⟨⟨⟨hr, hf⟩, hh⟩, hn⟩, hB⟩ := hB
    obtain ⟨m, rfl⟩ : ∃ m, n = m + 1 := ⟨n - 1, by omega⟩
    have hr' : i ∈ Region.ready .any ops listed := by simpa using hr
    obtain ⟨_, o, ho, _⟩ := mem_ready.1 hr'
    have hno : nthOp ops.toList i = o := nthOp_get _ _ _ (by simpa using ho)
    obtain ⟨hg, v, hv, h⟩ := h
    rw [hno] at hg hv h
    exact held_take ho hs (heldFree_spec hh) m listed a w (hC rfl) (fun _ h => h) (fun _ h => .inl h) (Region.free_spec ho hf) hr' (.inl ⟨by simp [Region.wanted, hg], fun w' _ => hv w'⟩) (tr_sound hs t m _ _ w hB (fun _ => hC rfl) h)
  | .held i t, n, listed, a, w, hB, hC, h => by
    simp only [trB, Bool.and_eq_true, bne_iff_ne] at hB
    obtain ⟨⟨⟨⟨hr, hf⟩, hh⟩, hn⟩, hB⟩ := hB
    obtain ⟨m, rfl⟩ : ∃ m, n = m + 1 := ⟨n - 1, by omega⟩
    have hr' : i ∈ Region.ready .any ops listed := by simpa using hr
    obtain ⟨_, o, ho, _⟩ := mem_ready.1 hr'
    have hno : nthOp ops.toList i = o := nthOp_get _ _ _ (by simpa using ho)
    obtain ⟨hg, v, hv, h⟩ := h
    rw [hno] at hg hv h
    exact held_take ho hs (heldFree_spec hh) m listed a w (hC rfl) (fun _ h => h) (fun _ h => .inl h) (Region.free_spec ho hf) hr' (.inl ⟨by simp [Region.wanted, hg], hv⟩) (tr_sound hs t m _ _ w hB (fun _ => hC rfl) h)
  | .one i t, n, listed, a, w, hB, _, h => by
    simp only [trB, Bool.and_eq_true, bne_iff_ne, beq_iff_eq] at hB
    obtain ⟨⟨⟨hr, hn⟩, hE⟩, hB⟩ := hB
    obtain ⟨m, rfl⟩ : ∃ m, n = m + 1 := ⟨n - 1, by omega⟩
    have hi : i ∈ Region.ready .any ops listed := by rw [hr]; simp
    obtain ⟨_, o, ho, _⟩ := mem_ready.1 hi
    refine ⟨by rw [hr]; simp, fun j hj => ?_⟩
    rw [hr] at hj
    obtain rfl : j = i := by simpa using hj
    exact wpOp_mono (fun a' w' h' => ⟨h'.1, tr_sound hs t m _ _ w' hB (fun hc => h'.1 (by cases hb : E.contains j with | false => rfl | true => rw [hb, hc] at hE; cases hE)) h'.2⟩) (wpOp_one ho h)
  | .two i t j u, n, listed, a, w, hB, _, h => by
    simp only [trB, Bool.and_eq_true, bne_iff_ne, beq_iff_eq] at hB
    obtain ⟨⟨⟨⟨⟨hr, hn⟩, hE⟩, hE2⟩, hB⟩, hB2⟩ := hB
    obtain ⟨m, rfl⟩ : ∃ m, n = m + 1 := ⟨n - 1, by omega⟩
    refine ⟨by rw [hr]; simp, fun k hk => ?_⟩
    obtain ⟨_, o, ho, _⟩ := mem_ready.1 hk
    rw [hr] at hk
    rcases List.mem_cons.1 hk with rfl | hk
    · exact wpOp_mono (fun a' w' h' => ⟨h'.1, tr_sound hs t m _ _ w' hB (fun hc => h'.1 (by cases hb : E.contains k with | false => rfl | true => rw [hb, hc] at hE; cases hE)) h'.2⟩) (wpOp_one ho h.1)
    · obtain rfl : k = j := by simpa using hk
      exact wpOp_mono (fun a' w' h' => ⟨h'.1, tr_sound hs u m _ _ w' hB2 (fun hc => h'.1 (by cases hb : E.contains k with | false => rfl | true => rw [hb, hc] at hE2; cases hE2)) h'.2⟩) (wpOp_one ho h.2)

theorem tr_plain {l : List Oper} {i : Nat} {t : Tr} {a a' : Act} {w : World} (v : Value) (hg : (nthOp l i).guard = none) (hv : ∀ w', (execOp a.eval (nthOp l i)).run P w' = .ok (.value v) w') (ha : a.put (nthOp l i).dst v = a')
    (h : wpTr P ops l C E Q t a' w) : wpTr P ops l C E Q (.plain i t) a w := ⟨hg, v, hv, ha ▸ h⟩
theorem tr_held {l : List Oper} {i : Nat} {t : Tr} {a a' : Act} {w : World} (v : Value) (hg : (nthOp l i).guard = none) (hv : ∀ w', C w' → (execOp a.eval (nthOp l i)).run P w' = .ok (.value v) w') (ha : a.put (nthOp l i).dst v = a')
    (h : wpTr P ops l C E Q t a' w) : wpTr P ops l C E Q (.held i t) a w := ⟨hg, v, hv, ha ▸ h⟩
theorem tr_one {l : List Oper} {i : Nat} {t : Tr} {a : Act} {w : World} (h : wpList P ops (Reg.Next fun a' w' => (E.contains i = false → C w') ∧ wpTr P ops l C E Q t a' w') [nthOp l i] a w) : wpTr P ops l C E Q (.one i t) a w := h
theorem tr_two {l : List Oper} {i j : Nat} {t u : Tr} {a : Act} {w : World} (h : wpList P ops (Reg.Next fun a' w' => (E.contains i = false → C w') ∧ wpTr P ops l C E Q t a' w') [nthOp l i] a w)
    (h' : wpList P ops (Reg.Next fun a' w' => (E.contains j = false → C w') ∧ wpTr P ops l C E Q u a' w') [nthOp l j] a w) : wpTr P ops l C E Q (.two i t j u) a w := ⟨h, h'⟩
theorem tr_done {l : List Oper} {a : Act} {w : World} (h : Q .normal a w) : wpTr P ops l C E Q .done a w := h
/-- A region that draws its order. -/
theorem wp_region_held {id : Nat} {l : List Oper} {a : Act} {w : World} (C : World → Prop) (E : List Nat) (t : Tr) (hm : P.follows .mixedOrders = true)
    (hB : (Region.noSelect l.toArray && trB l.toArray E t (Array.replicate l.toArray.size false) l.toArray.size) = true) (hC : C w.drew)
    (h : wpTr P l.toArray l C E Q t a w.drew) : (Code.region id l.toArray true).wp P Q a w := by
  simp only [Bool.and_eq_true] at hB
  refine Code.wp_mono Only.imp (wp_region_any hm ?_)
  exact wpAny_of_C _ _ _ _ (tr_sound hB.1 t _ _ a _ hB.2 (fun _ => hC) (by simpa using h))
end
end Go.Proofs.YtcjlbimmplejjaaGreatDoor.Held
