/-
  As XHeld, but what computes and what is held may be guarded, where its guard is known to want it. No program is named here.
-/
import Derived.Test.YtcjlbimmplejjaaGreatDoorHeld
namespace Go.Proofs.YtcjlbimmplejjaaGreatDoor.HeldG
open Go Go.Proofs.YtcjlbimmplejjaaGreatDoor.Reg Go.Proofs.YtcjlbimmplejjaaGreatDoor.Fork Go.Proofs.YtcjlbimmplejjaaGreatDoor.Held Region

section
variable {P : Program} {ops : Array Oper} {Q : Exit → Act → World → Prop} {C : World → Prop} {E : List Nat}
def wpTrG (P : Program) (ops : Array Oper) (l : List Oper) (C : World → Prop) (E : List Nat) (Q : Exit → Act → World → Prop) : Tr → Act → World → Prop
  | .done, a, w => Q .normal a w
  | .plain i t, a, w => Region.wanted (nthOp l i) (yielded ops a.tmps) = true ∧ ∃ v, (∀ w', (execOp a.eval (nthOp l i)).run P w' = .ok (.value v) w') ∧ wpTrG P ops l C E Q t (a.put (nthOp l i).dst v) w
  | .held i t, a, w => Region.wanted (nthOp l i) (yielded ops a.tmps) = true ∧ ∃ v, (∀ w', C w' → (execOp a.eval (nthOp l i)).run P w' = .ok (.value v) w') ∧ wpTrG P ops l C E Q t (a.put (nthOp l i).dst v) w
  | .one i t, a, w => wpList P ops (Reg.Next fun a' w' => (E.contains i = false → C w') ∧ wpTrG P ops l C E Q t a' w') [nthOp l i] a w
  | .two i t j u, a, w => wpList P ops (Reg.Next fun a' w' => (E.contains i = false → C w') ∧ wpTrG P ops l C E Q t a' w') [nthOp l i] a w ∧
      wpList P ops (Reg.Next fun a' w' => (E.contains j = false → C w') ∧ wpTrG P ops l C E Q u a' w') [nthOp l j] a w
theorem trG_sound (hs : Region.noSelect ops = true) : ∀ (t : Tr) (n : Nat) (listed : Array Bool) (a : Act) (w : World), trB ops E t listed n = true → (nowC t = true → C w) → wpTrG P ops ops.toList C E Q t a w → wpAnyC P ops C E Q n listed a w
  | .done, n, listed, a, w, hB, _, h => by
    simp only [trB, Bool.and_eq_true, beq_iff_eq] at hB
    obtain ⟨h1, rfl⟩ := hB
    exact ⟨by simpa using h1, h⟩
  | .plain i t, n, listed, a, w, hB, hC, h => by
    simp only [trB, Bool.and_eq_true, bne_iff_ne] at hB
    obtain ⟨⟨⟨⟨hr, hf⟩, hh⟩, hn⟩, hB⟩ := hB
    obtain ⟨m, rfl⟩ : ∃ m, n = m + 1 := ⟨n - 1, by omega⟩
    have hr' : i ∈ Region.ready .any ops listed := by simpa using hr
    obtain ⟨_, o, ho, _⟩ := mem_ready.1 hr'
    have hno : nthOp ops.toList i = o := nthOp_get _ _ _ (by simpa using ho)
    obtain ⟨hg, v, hv, h⟩ := h
    rw [hno] at hg hv h
    exact held_take ho hs (heldFree_spec hh) m listed a w (hC rfl) (fun _ h => h) (fun _ h => .inl h) (Region.free_spec ho hf) hr' (.inl ⟨hg, fun w' _ => hv w'⟩) (trG_sound hs t m _ _ w hB (fun _ => hC rfl) h)
  | .held i t, n, listed, a, w, hB, hC, h => by
    simp only [trB, Bool.and_eq_true, bne_iff_ne] at hB
    obtain ⟨⟨⟨⟨hr, hf⟩, hh⟩, hn⟩, hB⟩ := hB
    obtain ⟨m, rfl⟩ : ∃ m, n = m + 1 := ⟨n - 1, by omega⟩
    have hr' : i ∈ Region.ready .any ops listed := by simpa using hr
    obtain ⟨_, o, ho, _⟩ := mem_ready.1 hr'
    have hno : nthOp ops.toList i = o := nthOp_get _ _ _ (by simpa using ho)
    obtain ⟨hg, v, hv, h⟩ := h
    rw [hno] at hg hv h
    exact held_take ho hs (heldFree_spec hh) m listed a w (hC rfl) (fun _ h => h) (fun _ h => .inl h) (Region.free_spec ho hf) hr' (.inl ⟨hg, hv⟩) (trG_sound hs t m _ _ w hB (fun _ => hC rfl) h)
  | .one i t, n, listed, a, w, hB, _, h => by
    simp only [trB, Bool.and_eq_true, bne_iff_ne, beq_iff_eq] at hB
    obtain ⟨⟨⟨hr, hn⟩, hE⟩, hB⟩ := hB
    obtain ⟨m, rfl⟩ : ∃ m, n = m + 1 := ⟨n - 1, by omega⟩
    have hi : i ∈ Region.ready .any ops listed := by rw [hr]; simp
    obtain ⟨_, o, ho, _⟩ := mem_ready.1 hi
    refine ⟨by rw [hr]; simp, fun j hj => ?_⟩
    rw [hr] at hj
    obtain rfl : j = i := by simpa using hj
    exact wpOp_mono (fun a' w' h' => ⟨h'.1, trG_sound hs t m _ _ w' hB (fun hc => h'.1 (by cases hb : E.contains j with | false => rfl | true => rw [hb, hc] at hE; cases hE)) h'.2⟩) (wpOp_one ho h)
  | .two i t j u, n, listed, a, w, hB, _, h => by
    simp only [trB, Bool.and_eq_true, bne_iff_ne, beq_iff_eq] at hB
    obtain ⟨⟨⟨⟨⟨hr, hn⟩, hE⟩, hE2⟩, hB⟩, hB2⟩ := hB
    obtain ⟨m, rfl⟩ : ∃ m, n = m + 1 := ⟨n - 1, by omega⟩
    refine ⟨by rw [hr]; simp, fun k hk => ?_⟩
    obtain ⟨_, o, ho, _⟩ := mem_ready.1 hk
    rw [hr] at hk
    rcases List.mem_cons.1 hk with rfl | hk
    · exact wpOp_mono (fun a' w' h' => ⟨h'.1, trG_sound hs t m _ _ w' hB (fun hc => h'.1 (by cases hb : E.contains k with | false => rfl | true => rw [hb, hc] at hE; cases hE)) h'.2⟩) (wpOp_one ho h.1)
    · obtain rfl : k = j := by simpa using hk
      exact wpOp_mono (fun a' w' h' => ⟨h'.1, trG_sound hs u m _ _ w' hB2 (fun hc => h'.1 (by cases hb : E.contains k with | false => rfl | true => rw [hb, hc] at hE2; cases hE2)) h'.2⟩) (wpOp_one ho h.2)

theorem trG_plain {l : List Oper} {i : Nat} {t : Tr} {a a' : Act} {w : World} (v : Value) (hg : Region.wanted (nthOp l i) (yielded ops a.tmps) = true) (hv : ∀ w', (execOp a.eval (nthOp l i)).run P w' = .ok (.value v) w') (ha : a.put (nthOp l i).dst v = a')
    (h : wpTrG P ops l C E Q t a' w) : wpTrG P ops l C E Q (.plain i t) a w := ⟨hg, v, hv, ha ▸ h⟩
theorem trG_held {l : List Oper} {i : Nat} {t : Tr} {a a' : Act} {w : World} (v : Value) (hg : Region.wanted (nthOp l i) (yielded ops a.tmps) = true) (hv : ∀ w', C w' → (execOp a.eval (nthOp l i)).run P w' = .ok (.value v) w') (ha : a.put (nthOp l i).dst v = a')
    (h : wpTrG P ops l C E Q t a' w) : wpTrG P ops l C E Q (.held i t) a w := ⟨hg, v, hv, ha ▸ h⟩
theorem trG_one {l : List Oper} {i : Nat} {t : Tr} {a : Act} {w : World} (h : wpList P ops (Reg.Next fun a' w' => (E.contains i = false → C w') ∧ wpTrG P ops l C E Q t a' w') [nthOp l i] a w) : wpTrG P ops l C E Q (.one i t) a w := h
theorem trG_two {l : List Oper} {i j : Nat} {t u : Tr} {a : Act} {w : World} (h : wpList P ops (Reg.Next fun a' w' => (E.contains i = false → C w') ∧ wpTrG P ops l C E Q t a' w') [nthOp l i] a w)
    (h' : wpList P ops (Reg.Next fun a' w' => (E.contains j = false → C w') ∧ wpTrG P ops l C E Q u a' w') [nthOp l j] a w) : wpTrG P ops l C E Q (.two i t j u) a w := ⟨h, h'⟩
theorem trG_done {l : List Oper} {a : Act} {w : World} (h : Q .normal a w) : wpTrG P ops l C E Q .done a w := h
/-- A region that draws its order. -/
theorem wp_region_heldG {id : Nat} {l : List Oper} {a : Act} {w : World} (C : World → Prop) (E : List Nat) (t : Tr) (hm : P.follows .mixedOrders = true)
    (hB : (Region.noSelect l.toArray && trB l.toArray E t (Array.replicate l.toArray.size false) l.toArray.size) = true) (hC : C w.drew)
    (h : wpTrG P l.toArray l C E Q t a w.drew) : (Code.region id l.toArray true).wp P Q a w := by
  simp only [Bool.and_eq_true] at hB
  refine Code.wp_mono Only.imp (wp_region_any hm ?_)
  exact wpAny_of_C _ _ _ _ (trG_sound hB.1 t _ _ a _ hB.2 (fun _ => hC) (by simpa using h))
end
end Go.Proofs.YtcjlbimmplejjaaGreatDoor.HeldG
