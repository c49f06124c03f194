/-
  Row, Held2, ScRp, ScPf, ScPg, ScPh, ScRt in one text.
-/
import Derived.Test.YtcjlbimmplejjaaGreatDoorGen
import Derived.Test.YtcjlbimmplejjaaGreatDoorHeld
import Derived.Test.YtcjlbimmplejjaaGreatDoorScB
import Derived.Test.YtcjlbimmplejjaaGreatDoorScPb
import Derived.Test.YtcjlbimmplejjaaGreatDoorStrs
import Derived.Test.YtcjlbimmplejjaaGreatDoorScK
namespace Go.Proofs.YtcjlbimmplejjaaGreatDoor.Sep
open Go Go.RowKit
section
variable {W w : World} {e size n c g : Nat} {xs : List Value} {R : Asn}
theorem St.rowAt (h : St W w (star (Row e size (.slice (some ⟨g, 0, none⟩) n c) n xs) R)) {k : Nat} {u : Value} (hu : xs[k]? = some u) : w.cell? ⟨g, k, none⟩ = some u := by
  obtain ⟨_, a, c', hv, _, _, _, hc⟩ := h.rowSl
  cases hv
  have := hc _ rfl k u hu
  rwa [show (⟨g, 0, none⟩ : Addr).add k = ⟨g, k, none⟩ by unfold Addr.add; split <;> simp_all] at this
theorem St.rowFree (h : St W w (star (Row e size (.slice (some ⟨g, 0, none⟩) n c) n xs) R)) (k : Nat) : w.frozen? ⟨g, k, none⟩ = false := by
  obtain ⟨_, hv⟩ := h.row
  rcases hv with ⟨hv, _⟩ | ⟨g', cap, cur, hv, _, _, _, _, hS⟩
  · cases hv
  · cases hv; exact hS.free k
theorem St.rowSet (h : St W w (star (Row e size (.slice (some ⟨g, 0, none⟩) n c) n xs) R)) (k : Nat) (v : Value) : St W (w.setCell ⟨g, k, none⟩ v) (star (Row e size (.slice (some ⟨g, 0, none⟩) n c) n (xs.set k v)) R) := by
  obtain ⟨_, hv⟩ := h.row
  rcases hv with ⟨hv, _⟩ | ⟨g', cap, cur, hv, h1, h2, h3, h4, hS⟩
  · cases hv
  · cases hv
    exact St.mkRow (hS.setCell k v) h1 h2 (by rw [Array.size_setIfInBounds]; exact h3) (set_take cur _ k v xs h4)
theorem St.rowCut (h : St W w (star (Row e size (.slice (some ⟨g, 0, none⟩) n c) n xs) R)) {m : Nat} (hm : m ≤ n) : St W w (star (Row e size (.slice (some ⟨g, 0, none⟩) m c) m (xs.take (m * size))) R) := by
  obtain ⟨_, hv⟩ := h.row
  rcases hv with ⟨hv, _⟩ | ⟨g', cap, cur, hv, h1, h2, h3, h4, hS⟩
  · cases hv
  · cases hv
    refine St.mkRow hS (Nat.le_trans hm h1) h2 h3 ?_
    rw [← h4, List.take_take, Nat.min_eq_left (Nat.mul_le_mul_right _ hm)]
theorem St.rowHead {v : Value} (h : St W w (star (Row e size v n xs) R)) (hn : n ≠ 0) : ∃ g c, v = .slice (some ⟨g, 0, none⟩) n c := by
  obtain ⟨_, hv⟩ := h.row
  rcases hv with ⟨_, h0, _⟩ | ⟨g', cap, cur, hv, _⟩
  · exact absurd h0 hn
  · exact ⟨g', cap, hv⟩
end
end Go.Proofs.YtcjlbimmplejjaaGreatDoor.Sep
namespace Go.Proofs.YtcjlbimmplejjaaGreatDoor.Held2
open Go Go.Proofs.YtcjlbimmplejjaaGreatDoor.Reg Go.Proofs.YtcjlbimmplejjaaGreatDoor.Fork Go.Proofs.YtcjlbimmplejjaaGreatDoor.Held Region
section
variable {P : Program} {ops : Array Oper} {Q : Exit → Act → World → Prop} {C C2 : World → Prop} {E E2 : List Nat}
def trB2 (ops : Array Oper) (E E2 : List Nat) (t2 : Tr) : Tr → Array Bool → Nat → Bool
  | .done, listed, n => (List.range ops.size).all (fun j => listed.getD j true || E.contains j) && trB ops E2 t2 listed n
  | .plain i t, listed, n => (Region.ready .any ops listed).contains i && Region.free .any ops listed i && heldFree ops E listed i && n != 0 && trB2 ops E E2 t2 t (listed.setIfInBounds i true) (n - 1)
  | .held i t, listed, n => (Region.ready .any ops listed).contains i && Region.free .any ops listed i && heldFree ops E listed i && n != 0 && trB2 ops E E2 t2 t (listed.setIfInBounds i true) (n - 1)
  | .one i t, listed, n => Region.ready .any ops listed == [i] && n != 0 && !(E.contains i && nowC t) && trB2 ops E E2 t2 t (listed.setIfInBounds i true) (n - 1)
  | .two _ _ _ _, _, _ => false
theorem weakC : ∀ (f : Nat) (listed : Array Bool) (a : Act) (w : World), (∀ j, j < ops.size → listed.getD j true = false → E.contains j = true) → wpAnyC P ops C2 E2 Q f listed a w → wpAnyC P ops C E Q f listed a w
  | 0, _, _, _, _, h => h
  | f + 1, listed, a, w, hE, h => ⟨h.1, fun i hi => wpOp_mono (fun a' w' h' => by
      obtain ⟨hl, o, ho, _⟩ := mem_ready.1 hi
      have hlt := (Array.getElem?_eq_some_iff.1 ho).1
      have hc : E.contains i = true := hE i hlt (by simpa using hl)
      refine ⟨fun h0 => (by rw [hc] at h0; cases h0), weakC f _ a' w' (fun j hj hu => ?_) h'.2⟩
      refine hE j hj ?_
      by_cases hji : j = i
      · subst hji
        exact (by simpa using hl)
      · rw [Array.getD_eq_getD_getElem?, Array.getElem?_setIfInBounds, if_neg (fun e => hji e.symm)] at hu
        rw [Array.getD_eq_getD_getElem?]; exact hu) (h.2 i hi)⟩
def Q1 (P : Program) (ops : Array Oper) (l : List Oper) (C2 : World → Prop) (E2 : List Nat) (Q : Exit → Act → World → Prop) (t2 : Tr) : Exit → Act → World → Prop := fun _ a w => (nowC t2 = true → C2 w) ∧ wpTr P ops l C2 E2 Q t2 a w
theorem tr_sound2 (hs : Region.noSelect ops = true) (t2 : Tr) : ∀ (t : Tr) (n : Nat) (listed : Array Bool) (a : Act) (w : World), trB2 ops E E2 t2 t listed n = true → (nowC t = true → C w) → wpTr P ops ops.toList C E (Q1 P ops ops.toList C2 E2 Q t2) t a w → wpAnyC P ops C E Q n listed a w
  | .done, n, listed, a, w, hB, _, h => by
    simp only [trB2, Bool.and_eq_true] at hB
    obtain ⟨h1, h2⟩ := hB
    have h3 : Q1 P ops ops.toList C2 E2 Q t2 .normal a w := h
    refine weakC n listed a w (fun j hj hu => ?_) (tr_sound hs t2 n listed a w h2 h3.1 h3.2)
    have := List.all_eq_true.1 h1 j (List.mem_range.2 hj)
    rw [hu] at this
    simpa using this
  | .plain i t, n, listed, a, w, hB, hC, h => by
    simp only [trB2, Bool.and_eq_true, bne_iff_ne] at hB
    obtain ⟨⟨⟨⟨hr, hf⟩, hh⟩, hn⟩, hB⟩ := hB
    obtain ⟨m, rfl⟩ : ∃ m, n = m + 1 := ⟨n - 1, by omega⟩
    have hr' : i ∈ Region.ready .any ops listed := by simpa using hr
    obtain ⟨_, o, ho, _⟩ := mem_ready.1 hr'
    have hno : nthOp ops.toList i = o := nthOp_get _ _ _ (by simpa using ho)
    obtain ⟨hg, v, hv, h⟩ := h
    rw [hno] at hg hv h
    exact held_take ho hs (heldFree_spec hh) m listed a w (hC rfl) (fun _ h => h) (fun _ h => .inl h) (Region.free_spec ho hf) hr' (.inl ⟨by simp [Region.wanted, hg], fun w' _ => hv w'⟩) (tr_sound2 hs t2 t m _ _ w hB (fun _ => hC rfl) h)
  | .held i t, n, listed, a, w, hB, hC, h => by
    simp only [trB2, Bool.and_eq_true, bne_iff_ne] at hB
    obtain ⟨⟨⟨⟨hr, hf⟩, hh⟩, hn⟩, hB⟩ := hB
    obtain ⟨m, rfl⟩ : ∃ m, n = m + 1 := ⟨n - 1, by omega⟩
    have hr' : i ∈ Region.ready .any ops listed := by simpa using hr
    obtain ⟨_, o, ho, _⟩ := mem_ready.1 hr'
    have hno : nthOp ops.toList i = o := nthOp_get _ _ _ (by simpa using ho)
    obtain ⟨hg, v, hv, h⟩ := h
    rw [hno] at hg hv h
    exact held_take ho hs (heldFree_spec hh) m listed a w (hC rfl) (fun _ h => h) (fun _ h => .inl h) (Region.free_spec ho hf) hr' (.inl ⟨by simp [Region.wanted, hg], hv⟩) (tr_sound2 hs t2 t m _ _ w hB (fun _ => hC rfl) h)
  | .one i t, n, listed, a, w, hB, _, h => by
    simp only [trB2, Bool.and_eq_true, bne_iff_ne, beq_iff_eq] at hB
    obtain ⟨⟨⟨hr, hn⟩, hE⟩, hB⟩ := hB
    obtain ⟨m, rfl⟩ : ∃ m, n = m + 1 := ⟨n - 1, by omega⟩
    have hi : i ∈ Region.ready .any ops listed := by rw [hr]; simp
    obtain ⟨_, o, ho, _⟩ := mem_ready.1 hi
    refine ⟨by rw [hr]; simp, fun j hj => ?_⟩
    rw [hr] at hj
    obtain rfl : j = i := by simpa using hj
    exact wpOp_mono (fun a' w' h' => ⟨h'.1, tr_sound2 hs t2 t m _ _ w' hB (fun hc => h'.1 (by cases hb : E.contains j with | false => rfl | true => rw [hb, hc] at hE; cases hE)) h'.2⟩) (wpOp_one ho h)
  | .two i t j u, n, listed, a, w, hB, _, h => by simp [trB2] at hB
theorem tr_next {l : List Oper} {a : Act} {w : World} {t2 : Tr} (hC : C2 w) (h : wpTr P ops l C2 E2 Q t2 a w) : wpTr P ops l C E (Q1 P ops l C2 E2 Q t2) .done a w := ⟨fun _ => hC, h⟩
/-- A region that draws its order, in two stages. -/
theorem wp_region_held2 {id : Nat} {l : List Oper} {a : Act} {w : World} (C : World → Prop) (E : List Nat) (t : Tr) (C2 : World → Prop) (E2 : List Nat) (t2 : Tr) (hm : P.follows .mixedOrders = true)
    (hB : (Region.noSelect l.toArray && trB2 l.toArray E E2 t2 t (Array.replicate l.toArray.size false) l.toArray.size) = true) (hC : C w.drew)
    (h : wpTr P l.toArray l C E (Q1 P l.toArray l C2 E2 Q t2) t a w.drew) : (Code.region id l.toArray true).wp P Q a w := by
  simp only [Bool.and_eq_true] at hB
  refine Code.wp_mono Only.imp (wp_region_any hm ?_)
  exact wpAny_of_C _ _ _ _ (tr_sound2 hB.1 t2 t _ _ a _ hB.2 (fun _ => hC) (by simpa using h))
end
end Go.Proofs.YtcjlbimmplejjaaGreatDoor.Held2
namespace Go.Proofs.YtcjlbimmplejjaaGreatDoor.ScRp
open Go Go.Proofs.YtcjlbimmplejjaaGreatDoor.WdP Go.Proofs.YtcjlbimmplejjaaGreatDoor.ScP Go.Proofs.YtcjlbimmplejjaaGreatDoor.ScQ Go.Proofs.YtcjlbimmplejjaaGreatDoor.ScT Go.Proofs.YtcjlbimmplejjaaGreatDoor.ScB

/-- How many bytes a word goes on for, within marks or not. -/
def wend : Bool → Tx → Nat
  | _, [] => 0
  | false, c :: r => if c = 32 then 0 else 1 + wend false r
  | true, [c] => if c = 92 then 2 else 1
  | true, c :: d :: r => if c = 34 then 1 + wend false (d :: r) else if c = 92 then 2 + wend true r else 1 + wend true (d :: r)
def wordsF : Nat → Tx → List Tx
  | 0, _ => []
  | _ + 1, [] => []
  | n + 1, c :: r => if c = 32 then wordsF n r else if c = 35 then [] else (c :: r).take (1 + wend (c == 34) r) :: wordsF n ((c :: r).drop (1 + wend (c == 34) r))
def wordsR (s : Tx) : List Tx := wordsF s.length s
theorem wordsF_eq : ∀ (n m : Nat) (s : Tx), s.length ≤ n → s.length ≤ m → wordsF n s = wordsF m s
  | 0, m, s, hn, _ => by
    obtain rfl := List.eq_nil_of_length_eq_zero (Nat.le_zero.1 hn)
    cases m <;> rfl
  | n + 1, 0, s, _, hm => by
    obtain rfl := List.eq_nil_of_length_eq_zero (Nat.le_zero.1 hm); rfl
  | n + 1, m + 1, [], _, _ => rfl
  | n + 1, m + 1, c :: r, hn, hm => by
    simp only [List.length_cons] at hn hm
    simp only [wordsF]
    rw [wordsF_eq n m r (by omega) (by omega), wordsF_eq n m ((c :: r).drop (1 + wend (c == 34) r)) (by rw [List.length_drop, List.length_cons]; omega) (by rw [List.length_drop, List.length_cons]; omega)]
theorem wordsF_R {n : Nat} {s : Tx} (h : s.length ≤ n) : wordsF n s = wordsR s := wordsF_eq n _ s h (Nat.le_refl _)
theorem wend_false : ∀ r : Tx, wend false r = (r.takeWhile (· != 32)).length
  | [] => rfl
  | c :: r => by
    unfold wend
    by_cases h : c = 32
    · subst h; simp
    · rw [if_neg h, wend_false r, List.takeWhile_cons]
      have : (c != 32) = true := by simpa using h
      rw [this]; simp only [if_true, List.length_cons]; omega
theorem take_tw (r : Tx) : r.take (r.takeWhile (· != 32)).length = r.takeWhile (· != 32) ∧ r.drop (r.takeWhile (· != 32)).length = r.dropWhile (· != 32) := by
  have h := List.takeWhile_append_dropWhile (p := fun c : UInt8 => c != 32) (l := r)
  constructor
  · conv => lhs; rw [← h]
    rw [List.take_left']
    rw [h]
  · conv => lhs; rw [← h]
    rw [List.drop_left']
    rw [h]
theorem wordsR_blank (r : Tx) : wordsR (32 :: r) = wordsR r := by
  show wordsF (r.length + 1) (32 :: r) = _
  simp only [wordsF, if_true]
  rfl
theorem wordsR_cons {c : UInt8} {r : Tx} (h1 : c ≠ 32) (h2 : c ≠ 35) : wordsR (c :: r) = (c :: r).take (1 + wend (c == 34) r) :: wordsR ((c :: r).drop (1 + wend (c == 34) r)) := by
  show wordsF (r.length + 1) (c :: r) = _
  simp only [wordsF]
  rw [if_neg h1, if_neg h2, wordsF_R (by rw [List.length_drop, List.length_cons]; omega)]
theorem bl_cases : ∀ s : Tx, (bl s = [] ∧ wordsR s = []) ∨ ∃ c r, bl s = c :: r ∧ c ≠ 32 ∧ c ≠ 35 ∧ wordsR s = wordsR (c :: r)
  | [] => .inl ⟨rfl, rfl⟩
  | c :: r => by
    by_cases h1 : c = 32
    · subst h1
      rw [bl_blank, wordsR_blank]
      exact bl_cases r
    · by_cases h2 : c = 35
      · subst h2
        refine .inl ⟨bl_hash r, ?_⟩
        show wordsF (r.length + 1) (35 :: r) = _
        simp only [wordsF]
        rw [if_neg (by decide), if_pos trivial]
      · exact .inr ⟨c, r, bl_word r h1 h2, h1, h2, rfl⟩
theorem wd_nil {s : Tx} : wd s = [] ↔ bl s = [] := by
  rcases bl_cases s with ⟨h, -⟩ | ⟨c, r, h, h1, -, -⟩
  · unfold wd; rw [h]; simp
  · unfold wd; rw [h]
    have : (c != 32) = true := by simpa using h1
    simp [this]
theorem words_nil {s : Tx} : wordsR s = [] ↔ bl s = [] := by
  rcases bl_cases s with ⟨h, h'⟩ | ⟨c, r, h, h1, h2, h'⟩
  · simp [h, h']
  · rw [h, h', wordsR_cons h1 h2]; simp
/-- A word without marks. -/
theorem words_plain {s : Tx} (h : bl s ≠ []) (h34 : (bl s).head? ≠ some 34) : wordsR s = wd s :: wordsR (rs s) := by
  rcases bl_cases s with ⟨h0, -⟩ | ⟨c, r, h0, h1, h2, h'⟩
  · exact absurd h0 h
  · rw [h', wordsR_cons h1 h2]
    have hc : (c == 34) = false := by rw [h0] at h34; simpa using h34
    have hc1 : (c != 32) = true := by simpa using h1
    have ht := take_tw r
    unfold wd rs
    rw [h0, hc, wend_false, Nat.add_comm 1, List.take_succ_cons, List.drop_succ_cons, ht.1, ht.2, List.takeWhile_cons, List.dropWhile_cons, hc1]
    simp
/-- One with marks. -/
theorem words_mark {s r : Tx} (h : bl s = 34 :: r) : wordsR s = (34 :: r.take (wend true r)) :: wordsR (r.drop (wend true r)) := by
  rcases bl_cases s with ⟨h0, -⟩ | ⟨c, r', h0, h1, h2, h'⟩
  · rw [h] at h0; cases h0
  · rw [h] at h0
    obtain ⟨rfl, rfl⟩ := List.cons.inj h0
    rw [h', wordsR_cons h1 h2, Nat.add_comm 1, List.take_succ_cons, List.drop_succ_cons]; rfl

/-! ### A text -/
def textF : Nat → Tx → Option Tx
  | 0, _ => some []
  | _ + 1, [] => some []
  | n + 1, c :: r => if c = 34 then none else match nib (c :: r) with
    | none => none
    | some (d, q) => (textF n q).map (d :: ·)
def textI (s : Tx) : Option Tx := textF s.length s
theorem textF_eq : ∀ (n m : Nat) (s : Tx), s.length ≤ n → s.length ≤ m → textF n s = textF m s
  | 0, m, s, hn, _ => by
    obtain rfl := List.eq_nil_of_length_eq_zero (Nat.le_zero.1 hn)
    cases m <;> rfl
  | n + 1, 0, s, _, hm => by
    obtain rfl := List.eq_nil_of_length_eq_zero (Nat.le_zero.1 hm); rfl
  | n + 1, m + 1, [], _, _ => rfl
  | n + 1, m + 1, c :: r, hn, hm => by
    simp only [textF]
    split
    · rfl
    · split
      · rfl
      · rename_i d q hq
        have := step_len hq
        simp only [List.length_cons] at hn hm this
        rw [textF_eq n m q (by omega) (by omega)]
theorem textF_I {n : Nat} {s : Tx} (h : s.length ≤ n) : textF n s = textI s := textF_eq n _ s h (Nat.le_refl _)
theorem textI_nil : textI [] = some [] := rfl
theorem textI_mark (r : Tx) : textI (34 :: r) = none := by
  show textF (r.length + 1) (34 :: r) = none
  simp only [textF, if_true]
theorem textI_none {s : Tx} (hne : s ≠ []) (h : nib s = none) : textI s = none := by
  cases s with
  | nil => exact absurd rfl hne
  | cons c r =>
    show textF (r.length + 1) (c :: r) = none
    simp only [textF]
    split
    · rfl
    · rw [h]
theorem textI_step {s : Tx} {c : UInt8} {r : Tx} (h34 : s.head? ≠ some 34) (h : nib s = some (c, r)) : textI s = (textI r).map (c :: ·) := by
  cases s with
  | nil => simp [nib] at h
  | cons d q =>
    show textF (q.length + 1) (d :: q) = _
    simp only [textF]
    have hl := step_len h
    simp only [List.length_cons] at hl
    rw [if_neg (by simpa using h34), h]
    simp only
    rw [textF_I (by omega)]
/-- What stands between marks is read as a text, and ends there. -/
theorem esc_app {s : Tx} {c : UInt8} {r : Tx} (T : Tx) (h : esc s = some (c, r)) : esc (s ++ T) = some (c, r ++ T) := by
  unfold esc at h
  split at h
  · cases h
  · rename_i d q
    simp only [List.cons_append, esc]
    split at h
    · rename_i h1; cases h; rw [if_pos h1]
    · rename_i h1
      rw [if_neg h1]
      split at h
      · rename_i h2; cases h; rw [if_pos h2]
      · rename_i h2
        rw [if_neg h2]
        split at h
        · rename_i h3; cases h; rw [if_pos h3]
        · rename_i h3
          rw [if_neg h3]
          split at h
          · rename_i h4; cases h; rw [if_pos h4]
          · rename_i h4
            rw [if_neg h4]
            split at h
            · rename_i h5
              rw [if_pos h5]
              split at h
              · simp only [List.cons_append]
                split at h
                · cases h
                  rfl
                · cases h
              · cases h
            · cases h
theorem nib_app {s : Tx} {c : UInt8} {r : Tx} (T : Tx) (h : nib s = some (c, r)) : nib (s ++ T) = some (c, r ++ T) := by
  unfold nib at h
  split at h
  · cases h
  · rename_i d q
    simp only [List.cons_append, nib]
    split at h
    · rename_i h1; rw [if_pos h1]; exact esc_app T h
    · rename_i h1
      rw [if_neg h1]
      split at h
      · rename_i h2; cases h; rw [if_pos h2]
      · cases h
theorem textI_scan (y : Tx) : ∀ (n : Nat) (x t : Tx), x.length ≤ n → textI x = some t → scan (x ++ 34 :: y) = some (t, y)
  | n, [], t, _, h => by
    rw [textI_nil] at h; cases h
    exact scan_mark y
  | 0, c :: x, _, hl, _ => by simp at hl
  | n + 1, c :: x, t, hl, h => by
    by_cases h34 : c = 34
    · subst h34; rw [textI_mark] at h; cases h
    · cases hs : nib (c :: x) with
      | none => rw [textI_none (by simp) hs] at h; cases h
      | some z =>
        obtain ⟨d, r⟩ := z
        have h2 : (c :: x).head? ≠ some 34 := by simpa using h34
        rw [textI_step h2 hs] at h
        cases hr : textI r with
        | none => rw [hr] at h; cases h
        | some u =>
          rw [hr] at h
          cases h
          have hl2 := step_len hs
          have ih := textI_scan y n r u (by simp only [List.length_cons] at hl hl2; omega) hr
          have h3 := nib_app (34 :: y) hs
          rw [scan_step (by simpa using h34) h3, ih]; rfl
theorem esc_back {s : Tx} {c : UInt8} {r : Tx} (h : esc s = some (c, r)) : ∃ x, s = x ++ r ∧ x ≠ [] ∧ esc x = some (c, []) ∧ (x.length = 1 ∨ ∃ a b, x = [120, a, b] ∧ a ≠ 34 ∧ a ≠ 92 ∧ b ≠ 34 ∧ b ≠ 92) := by
  unfold esc at h
  split at h
  · cases h
  · rename_i d q
    split at h
    · rename_i h1; cases h; exact ⟨[d], rfl, by simp, by simp [esc, h1], .inl rfl⟩
    · split at h
      · rename_i h2; cases h; exact ⟨[d], rfl, by simp, by simp [esc, h2], .inl rfl⟩
      · split at h
        · rename_i h1 h2 h3; cases h; exact ⟨[d], rfl, by simp, by simp [esc, h3], .inl rfl⟩
        · split at h
          · rename_i h1 h2 h3 h4; cases h; exact ⟨[d], rfl, by simp, by simp [esc, h4], .inl rfl⟩
          · split at h
            · rename_i h1 h2 h3 h4 h5
              split at h
              · rename_i a b q
                split at h
                · rename_i u v hu hv
                  cases h
                  subst h5
                  have hx : ∀ z : UInt8, ∀ k, hexI z = some k → z ≠ 34 ∧ z ≠ 92 := by
                    intro z k hz
                    constructor
                    · rintro rfl; simp [hexI] at hz
                    · rintro rfl; simp [hexI] at hz
                  exact ⟨[120, a, b], rfl, by simp, by simp [esc, hu, hv], .inr ⟨a, b, rfl, (hx a u hu).1, (hx a u hu).2, (hx b v hv).1, (hx b v hv).2⟩⟩
                · cases h
              · cases h
            · cases h
theorem wend_esc {x q : Tx} (hx : x.length = 1 ∨ ∃ a b, x = [120, a, b] ∧ a ≠ 34 ∧ a ≠ 92 ∧ b ≠ 34 ∧ b ≠ 92) : wend true (92 :: (x ++ q)) = 1 + x.length + wend true q := by
  have one : ∀ (c : UInt8) (q : Tx), c ≠ 34 → c ≠ 92 → wend true (c :: q) = 1 + wend true q := by
    intro c q h1 h2
    cases q with
    | nil => simp [wend, h2]
    | cons d q => simp [wend, h1, h2]
  rcases hx with h | ⟨a, b, rfl, h1, h2, h3, h4⟩
  · match x, h with
    | [d], _ => simp [wend]
  · simp only [List.cons_append, List.nil_append]
    rw [show wend true (92 :: 120 :: a :: b :: q) = 2 + wend true (a :: b :: q) from by simp [wend], one a _ h1 h2, one b _ h3 h4]
    simp only [List.length_cons, List.length_nil]; omega
theorem scan_back : ∀ (n : Nat) (r t q : Tx), r.length ≤ n → scan r = some (t, q) → ∃ x, r = x ++ 34 :: q ∧ textI x = some t ∧ wend true r = x.length + 1 + wend false q
  | n, [], t, q, _, h => by
    rw [scan_none (by simp) (by simp [nib])] at h; cases h
  | 0, c :: r, _, _, hl, _ => by simp at hl
  | n + 1, c :: r, t, q, hl, h => by
    by_cases h34 : c = 34
    · subst h34
      rw [scan_mark] at h
      cases h
      refine ⟨[], rfl, rfl, ?_⟩
      cases r with
      | nil => simp [wend]
      | cons d r => simp [wend]
    · have h2 : (c :: r).head? ≠ some 34 := by simpa using h34
      cases hs : nib (c :: r) with
      | none => rw [scan_none h2 hs] at h; cases h
      | some z =>
        obtain ⟨d, r2⟩ := z
        rw [scan_step h2 hs] at h
        cases hr : scan r2 with
        | none => rw [hr] at h; cases h
        | some z =>
          obtain ⟨u, q2⟩ := z
          rw [hr] at h
          simp only [Option.map_some, Option.some.injEq, Prod.mk.injEq] at h
          obtain ⟨rfl, rfl⟩ := h
          have hl2 := step_len hs
          obtain ⟨x, rfl, hx, hw⟩ := scan_back n r2 u q2 (by simp only [List.length_cons] at hl hl2; omega) hr
          -- the head
          unfold nib at hs
          simp only at hs
          by_cases h92 : c = 92
          · subst h92
            rw [if_pos (show (92 : UInt8) = 92 from rfl)] at hs
            obtain ⟨y, rfl, hy0, hy1, hy2⟩ := esc_back hs
            refine ⟨92 :: (y ++ x), by simp, ?_, ?_⟩
            · have h5 : nib (92 :: (y ++ x)) = some (d, x) := by
                have := nib_app (s := 92 :: y) (c := d) (r := []) x (by simp only [nib, if_true]; exact hy1)
                simpa using this
              rw [textI_step (by simp) h5, hx]; rfl
            · rw [wend_esc hy2, hw]
              simp only [List.length_cons, List.length_append]; omega
          · rw [if_neg h92] at hs
            split at hs
            · rename_i hb
              cases hs
              refine ⟨c :: x, rfl, ?_, ?_⟩
              · have h5 : nib (c :: x) = some (c, x) := by simp only [nib]; rw [if_neg h92, if_pos hb]
                rw [textI_step (by simpa using h34) h5, hx]; rfl
              · have : wend true (c :: (x ++ 34 :: q2)) = 1 + wend true (x ++ 34 :: q2) := by
                  cases hq : x ++ 34 :: q2 with
                  | nil => simp at hq
                  | cons e q => simp [wend, h34, h92]
                rw [this, hw, List.length_cons]; omega
            · cases hs
theorem textI_app (y : Tx) : ∀ (n : Nat) (x t : Tx), x.length ≤ n → textI x = some t → textI (x ++ 34 :: y) = none
  | n, [], t, _, _ => textI_mark y
  | 0, c :: x, _, hl, _ => by simp at hl
  | n + 1, c :: x, t, hl, h => by
    by_cases h34 : c = 34
    · subst h34; rw [textI_mark] at h; cases h
    · cases hs : nib (c :: x) with
      | none => rw [textI_none (by simp) hs] at h; cases h
      | some z =>
        obtain ⟨d, r⟩ := z
        have h2 : (c :: x).head? ≠ some 34 := by simpa using h34
        rw [textI_step h2 hs] at h
        cases hr : textI r with
        | none => rw [hr] at h; cases h
        | some u =>
          have hl2 := step_len hs
          have ih := textI_app y n r u (by simp only [List.length_cons] at hl hl2; omega) hr
          have h3 := nib_app (34 :: y) hs
          rw [textI_step (by simpa using h34) h3, ih]; rfl
/-- A word as a text. -/
def textR (w : Tx) : Option Tx :=
  if w.length < 2 ∨ w[0]? ≠ some 34 ∨ w[w.length - 1]? ≠ some 34 then none else match textI ((w.drop 1).take (w.length - 2)) with
    | none => none
    | some t => if t.length ≤ 4096 then some t else none
theorem textR_mk (x : Tx) : textR (34 :: (x ++ [34])) = match textI x with | none => none | some t => if t.length ≤ 4096 then some t else none := by
  have hl : (34 :: (x ++ [34])).length = x.length + 2 := by simp
  unfold textR
  rw [if_neg, hl]
  · simp
  · rw [hl]
    rintro (h | h | h)
    · omega
    · simp at h
    · rw [show x.length + 2 - 1 = x.length + 1 from by omega] at h
      simp at h
theorem textR_inv {w t : Tx} (h : textR w = some t) : ∃ x, w = 34 :: (x ++ [34]) ∧ textI x = some t ∧ t.length ≤ 4096 := by
  unfold textR at h
  split at h
  · cases h
  · rename_i hc
    have h1 : ¬ w.length < 2 := fun h => hc (.inl h)
    have h2 : w[0]? = some 34 := Classical.byContradiction fun h => hc (.inr (.inl h))
    have h3 : w[w.length - 1]? = some 34 := Classical.byContradiction fun h => hc (.inr (.inr h))
    obtain ⟨r, rfl⟩ : ∃ r, w = 34 :: r := by
      cases w with
      | nil => simp at h2
      | cons c r => simp at h2; exact ⟨r, by rw [h2]⟩
    have hr : r ≠ [] := by rintro rfl; simp at h1
    obtain ⟨x, c, rfl⟩ : ∃ l c, r = l ++ [c] := ⟨r.dropLast, r.getLast hr, (List.dropLast_concat_getLast hr).symm⟩
    have hl : (34 :: (x ++ [c])).length = x.length + 2 := by simp
    rw [hl, show x.length + 2 - 1 = x.length + 1 from by omega] at h3
    simp at h3
    subst h3
    rw [hl] at h
    simp at h
    split at h
    · cases h
    · rename_i u hu
      split at h
      · rename_i h5; cases h; exact ⟨x, rfl, hu, h5⟩
      · cases h
/-- The text behind blanks is that of the next word. -/
theorem text_law {s r : Tx} (h : bl s = 34 :: r) : textP s = (textR (34 :: r.take (wend true r))).map fun t => (t, r.drop (wend true r)) := by
  unfold textP
  rw [h, if_pos (by rfl)]
  simp only [List.tail_cons]
  cases hs : scan r with
  | some z =>
    obtain ⟨t, q⟩ := z
    obtain ⟨x, rfl, hx, hw⟩ := scan_back _ _ _ _ (Nat.le_refl _) hs
    simp only
    by_cases hq : q = [] ∨ q.head? = some 32
    · have h0 : wend false q = 0 := by
        rcases hq with rfl | hq
        · rfl
        · cases q with
          | nil => rfl
          | cons c q => simp at hq; subst hq; simp [wend]
      rw [hw, h0, Nat.add_zero]
      have e1 : (x ++ 34 :: q).take (x.length + 1) = x ++ [34] := by
        rw [List.take_append, List.take_of_length_le (by omega), show x.length + 1 - x.length = 0 + 1 from by omega, List.take_succ_cons]; rfl
      have e2 : (x ++ 34 :: q).drop (x.length + 1) = q := by
        rw [List.drop_append, List.drop_of_length_le (by omega), show x.length + 1 - x.length = 0 + 1 from by omega, List.drop_succ_cons]; rfl
      rw [e1, e2, textR_mk, hx]
      simp only
      by_cases h4 : t.length ≤ 4096
      · rw [if_pos ⟨h4, hq⟩, if_pos h4]; rfl
      · rw [if_neg (fun h => h4 h.1), if_neg h4]; rfl
    · rw [if_neg (fun h => hq h.2)]
      cases ht : textR (34 :: (x ++ 34 :: q).take (wend true (x ++ 34 :: q))) with
      | none => rfl
      | some u =>
        exfalso
        obtain ⟨x2, he, hx2, -⟩ := textR_inv ht
        have he2 := (List.cons.inj he).2
        rw [hw] at he2
        obtain ⟨k, hk⟩ : ∃ k, wend false q = k + 1 := by
          cases q with
          | nil => exact absurd (.inl rfl) hq
          | cons c q =>
            have : c ≠ 32 := fun h => hq (.inr (by rw [h]; rfl))
            exact ⟨wend false q, by simp [wend, this]; omega⟩
        rw [hk] at he2
        have e1 : (x ++ 34 :: q).take (x.length + 1 + (k + 1)) = x ++ 34 :: q.take (k + 1) := by
          rw [List.take_append, List.take_of_length_le (by omega), show x.length + 1 + (k + 1) - x.length = (k + 1) + 1 from by omega, List.take_succ_cons]
        rw [e1] at he2
        have hq1 : q.take (k + 1) ≠ [] := by
          intro h0
          cases q with
          | nil => simp [wend] at hk
          | cons c q => simp at h0
        obtain ⟨y, c, hy⟩ : ∃ l c, q.take (k + 1) = l ++ [c] := ⟨_, _, (List.dropLast_concat_getLast hq1).symm⟩
        rw [hy] at he2
        have h6 : (x ++ 34 :: y) ++ [c] = x2 ++ [34] := by simpa using he2
        have h7 := (List.append_inj' h6 rfl).1
        rw [← h7, textI_app y _ x t (Nat.le_refl _) hx] at hx2
        cases hx2
  | none =>
    simp only
    cases ht : textR (34 :: r.take (wend true r)) with
    | none => rfl
    | some u =>
      exfalso
      obtain ⟨x2, he, hx2, -⟩ := textR_inv ht
      have he2 := (List.cons.inj he).2
      have h5 : r = x2 ++ 34 :: r.drop (wend true r) := by
        conv => lhs; rw [← List.take_append_drop (wend true r) r, he2]
        simp
      have := textI_scan (r.drop (wend true r)) _ x2 u (Nat.le_refl _) hx2
      rw [← h5, hs] at this
      cases this
theorem text_no {s : Tx} (h : (bl s).head? ≠ some 34) : textP s = none := by unfold textP; rw [if_neg h]

/-! ### The act of words -/
theorem num_mark (r : Tx) : num (34 :: r) = none := by
  cases h : num (34 :: r) with
  | none => rfl
  | some n =>
    have h1 := (num_inv h).1
    have := digit_ne (n := n) 34 (by rw [← h1]; simp)
    exact absurd rfl this.2.2.2.1
theorem numM_mark (m : Nat) (r : Tx) : numM m (34 :: r) = none := by unfold numM; rw [num_mark]; rfl
theorem numM_nil (m : Nat) : numM m [] = none := rfl
/-- The next word as a number. -/
def hdN (m : Nat) : List Tx → Option (Nat × List Tx)
  | [] => none
  | w :: l => (numM m w).map fun n => (n, l)
theorem wd_mark {s r : Tx} (h : bl s = 34 :: r) : ∃ q, wd s = 34 :: q := by
  unfold wd; rw [h]; exact ⟨_, rfl⟩
theorem hdN_law (m : Nat) (s : Tx) : hdN m (wordsR s) = (numM m (wd s)).map fun n => (n, wordsR (rs s)) := by
  by_cases h0 : bl s = []
  · rw [words_nil.2 h0, wd_nil.2 h0]; rfl
  · by_cases h34 : (bl s).head? = some 34
    · obtain ⟨r, hr⟩ : ∃ r, bl s = 34 :: r := by
        cases h : bl s with
        | nil => exact absurd h h0
        | cons c r => rw [h] at h34; simp at h34; exact ⟨r, by rw [h34]⟩
      obtain ⟨q, hq⟩ := wd_mark hr
      rw [words_mark hr, hq, numM_mark]
      simp only [hdN, numM_mark]; rfl
    · rw [words_plain h0 h34]; rfl
def hdT : List Tx → Option (Tx × List Tx)
  | [] => none
  | w :: l => (textR w).map fun t => (t, l)
theorem hdT_law (s : Tx) : hdT (wordsR s) = (textP s).map fun x => (x.1, wordsR x.2) := by
  by_cases h0 : bl s = []
  · rw [words_nil.2 h0, text_no (by rw [h0]; simp)]; rfl
  · by_cases h34 : (bl s).head? = some 34
    · obtain ⟨r, hr⟩ : ∃ r, bl s = 34 :: r := by
        cases h : bl s with
        | nil => exact absurd h h0
        | cons c r => rw [h] at h34; simp at h34; exact ⟨r, by rw [h34]⟩
      rw [words_mark hr, text_law hr]
      simp only [hdT]
      cases textR (34 :: r.take (wend true r)) <;> rfl
    · rw [words_plain h0 h34, text_no h34]
      simp only [hdT]
      have : textR (wd s) = none := by
        cases h : textR (wd s) with
        | none => rfl
        | some t =>
          obtain ⟨x, hx, -⟩ := textR_inv h
          exfalso
          apply h34
          unfold wd at hx
          cases hb : bl s with
          | nil => exact absurd hb h0
          | cons c r =>
            rw [hb, List.takeWhile_cons] at hx
            split at hx
            · rw [(List.cons.inj hx).1]; rfl
            · cases hx
      rw [this]; rfl
def takeR (h : Shp) (l : List Tx) : Option Ac :=
  match (if h.c then hdN 7 l else some (0, l)) with
  | none => none
  | some (c, l1) => match (if h.s then hdT l1 else some ([], l1)) with
    | none => none
    | some (t, l2) => match (match h.m with | some m => hdN m l2 | none => some (0, l2)) with
      | none => none
      | some (n, l3) => if l3 = [] then some ⟨h.k, c, n, t⟩ else none
theorem take_law (h : Shp) (s : Tx) : takeR h (wordsR s) = takeA h s := by
  unfold takeR takeA
  have e1 : (if h.c then hdN 7 (wordsR s) else some (0, wordsR s)) = (takeC h s).map fun x => (x.1, wordsR x.2) := by
    unfold takeC
    split
    · rw [hdN_law]; cases numM 7 (wd s) <;> rfl
    · rfl
  rw [e1]
  cases takeC h s with
  | none => rfl
  | some x =>
    obtain ⟨c, s1⟩ := x
    simp only [Option.map_some]
    have e2 : (if h.s then hdT (wordsR s1) else some ([], wordsR s1)) = (takeS h s1).map fun x => (x.1, wordsR x.2) := by
      unfold takeS
      split
      · rw [hdT_law]
      · rfl
    rw [e2]
    cases takeS h s1 with
    | none => rfl
    | some x =>
      obtain ⟨t, s2⟩ := x
      simp only [Option.map_some]
      have e3 : (match h.m with | some m => hdN m (wordsR s2) | none => some (0, wordsR s2)) = (takeN h s2).map fun x => (x.1, wordsR x.2) := by
        unfold takeN
        cases h.m with
        | none => rfl
        | some m => simp only; rw [hdN_law]; cases numM m (wd s2) <;> rfl
      rw [e3]
      cases takeN h s2 with
      | none => rfl
      | some x =>
        obtain ⟨n, s3⟩ := x
        simp only [Option.map_some, words_nil]
def actR (l : List Tx) : Option Ac := match l with
  | [] => none
  | w :: r => (shp w).bind fun h => takeR h r
theorem shp_mark (r : Tx) : shp (34 :: r) = none := by
  cases h : shp (34 :: r) with
  | none => rfl
  | some x =>
    unfold shp at h
    cases h2 : shps.find? (fun e => e.1 == 34 :: r) with
    | none => rw [h2] at h; cases h
    | some e =>
      have h3 := List.find?_some h2
      have h4 := (shps_all e (List.mem_of_find?_eq_some h2)).2.2.1
      have h5 : e.1 = 34 :: r := by simpa using h3
      have h6 : ∀ e ∈ shps, e.1.head? ≠ some 34 := by decide
      exact absurd (by rw [h5]; rfl) (h6 e (List.mem_of_find?_eq_some h2))
theorem act_law (s : Tx) (h : bl s ≠ []) : actR (wordsR s) = actP (wd s) (rs s) := by
  by_cases h34 : (bl s).head? = some 34
  · obtain ⟨r, hr⟩ : ∃ r, bl s = 34 :: r := by
      cases h' : bl s with
      | nil => exact absurd h' h
      | cons c r => rw [h'] at h34; simp at h34; exact ⟨r, by rw [h34]⟩
    obtain ⟨q, hq⟩ := wd_mark hr
    rw [words_mark hr, hq]
    simp only [actR, actP, shp_mark]; rfl
  · rw [words_plain h h34]
    simp only [actR, actP]
    cases shp (wd s) with
    | none => rfl
    | some x => exact take_law x (rs s)

/-! ### Parts -/
inductive Sm where
  | act (x : Ac)
  | loop (n m : Nat) (l : List Ac)
def manyA (n : Nat) : Sm → Nat
  | .act _ => min (n + 1) 4097
  | .loop t m _ => min (n + m * t) 4097
def manyS (l : List Sm) : Nat := l.foldl manyA 0
def actsA : Sm → List Ac
  | .act x => [x]
  | .loop t m l => if t = 0 ∨ m = 0 then [] else reps t l
def actsS (l : List Sm) : List Ac := l.flatMap actsA
structure Opn where
  l : List Sm
  times : Nat
  line : Nat
def blk (o : Opn) : Blk := ⟨if manyS o.l ≤ 4096 then actsS o.l else [], manyS o.l, o.times, o.line⟩
def lineR (st : List Opn) (s : Tx) (n : Nat) : Option (List Opn) :=
  match wordsR s with
  | [] => some st
  | w :: r => if w = wTimes then match hdN 1000 r with
      | some (k, []) => if st.length ≤ 8 then some (⟨[], k, n⟩ :: st) else none
      | _ => none
    else if w = wEnd then match r, st with
      | [], b :: c :: q => some ({ c with l := c.l ++ [.loop b.times (manyS b.l) (actsS b.l)] } :: q)
      | _, _ => none
    else match actR (w :: r) with
      | none => none
      | some x => match st with
        | b :: q => some ({ b with l := b.l ++ [.act x] } :: q)
        | [] => none
theorem many_le (l : List Sm) : manyS l ≤ 4097 := by
  unfold manyS
  rcases List.eq_nil_or_concat l with rfl | ⟨l, x, rfl⟩
  · simp
  · rw [List.concat_eq_append, List.foldl_append]
    simp only [List.foldl_cons, List.foldl_nil]
    cases x <;> simp only [manyA] <;> omega
theorem many_snoc (l : List Sm) (x : Sm) : manyS (l ++ [x]) = manyA (manyS l) x := by simp [manyS]
theorem acts_snoc (l : List Sm) (x : Sm) : actsS (l ++ [x]) = actsS l ++ actsA x := by simp [actsS]
theorem blk_act (o : Opn) (x : Ac) : blk { o with l := o.l ++ [.act x] } = addB (blk o) [x] 1 1 := by
  have h := many_le o.l
  have e1 : blk { o with l := o.l ++ [.act x] } = ⟨if min (manyS o.l + 1) 4097 ≤ 4096 then actsS o.l ++ [x] else [], min (manyS o.l + 1) 4097, o.times, o.line⟩ := by
    unfold blk; simp only [many_snoc, acts_snoc, manyA, actsA]
  have e2 : addB (blk o) [x] 1 1 = if 4096 < 1 ∨ 4096 < manyS o.l + 1 * 1 then ⟨[], 4097, o.times, o.line⟩ else ⟨(blk o).l ++ reps 1 [x], manyS o.l + 1 * 1, o.times, o.line⟩ := by
    unfold addB; rw [if_neg (by omega)]; rfl
  rw [e1, e2]
  by_cases h1 : manyS o.l + 1 ≤ 4096
  · rw [if_pos (by omega), if_neg (by omega), reps_one, Nat.min_eq_left (by omega)]
    unfold blk; simp only; rw [if_pos (by omega)]
  · rw [if_neg (by omega), if_pos (by omega), Nat.min_eq_right (by omega)]
theorem blk_loop (b c : Opn) : blk { c with l := c.l ++ [.loop b.times (manyS b.l) (actsS b.l)] } = addB (blk c) (blk b).l (blk b).many (blk b).times := by
  have h := many_le c.l
  have h2 := many_le b.l
  have e1 : blk { c with l := c.l ++ [.loop b.times (manyS b.l) (actsS b.l)] } = ⟨if min (manyS c.l + manyS b.l * b.times) 4097 ≤ 4096 then actsS c.l ++ (if b.times = 0 ∨ manyS b.l = 0 then [] else reps b.times (actsS b.l)) else [], min (manyS c.l + manyS b.l * b.times) 4097, c.times, c.line⟩ := by
    unfold blk; simp only [many_snoc, acts_snoc, manyA, actsA]
  rw [e1]
  by_cases h0 : b.times = 0 ∨ manyS b.l = 0
  · have e2 : addB (blk c) (blk b).l (blk b).many (blk b).times = blk c := by
      unfold addB; exact if_pos h0.symm
    have h3 : manyS b.l * b.times = 0 := by rcases h0 with h | h <;> simp [h]
    rw [e2, if_pos h0, h3, Nat.add_zero, Nat.min_eq_left h, List.append_nil]; rfl
  · have hle : manyS b.l ≤ manyS b.l * b.times := Nat.le_mul_of_pos_right _ (by omega)
    have e2 : addB (blk c) (blk b).l (blk b).many (blk b).times = if 4096 < manyS b.l ∨ 4096 < manyS c.l + manyS b.l * b.times then ⟨[], 4097, c.times, c.line⟩ else ⟨(blk c).l ++ reps b.times (blk b).l, manyS c.l + manyS b.l * b.times, c.times, c.line⟩ := by
      unfold addB; rw [if_neg (fun h => h0 h.symm)]; rfl
    rw [e2, if_neg h0]
    generalize manyS b.l * b.times = q at *
    by_cases h1 : manyS c.l + q ≤ 4096
    · rw [if_pos (by omega), if_neg (by omega), Nat.min_eq_left (by omega)]
      unfold blk; simp only; rw [if_pos (by omega), if_pos (by omega)]
    · rw [if_neg (by omega), if_pos (by omega), Nat.min_eq_right (by omega)]
theorem line_law (st : List Opn) (s : Tx) (n : Nat) : (lineR st s n).map (List.map blk) = lineP (st.map blk) s n := by
  unfold lineR lineP
  by_cases h0 : bl s = []
  · rw [words_nil.2 h0, if_pos (wd_nil.2 h0)]; rfl
  · rw [if_neg (fun h => h0 (wd_nil.1 h))]
    by_cases h34 : (bl s).head? = some 34
    · obtain ⟨r, hr⟩ : ∃ r, bl s = 34 :: r := by
        cases h' : bl s with
        | nil => exact absurd h' h0
        | cons c r => rw [h'] at h34; simp at h34; exact ⟨r, by rw [h34]⟩
      obtain ⟨q, hq⟩ := wd_mark hr
      rw [words_mark hr, hq]
      simp only
      rw [if_neg (by simp [wTimes]), if_neg (by simp [wEnd]), if_neg (by simp [wTimes]), if_neg (by simp [wEnd])]
      simp only [actR, actP, shp_mark]; rfl
    · have hact := act_law s h0
      rw [words_plain h0 h34] at hact
      rw [words_plain h0 h34]
      simp only
      by_cases ht : wd s = wTimes
      · rw [if_pos ht, if_pos ht, hdN_law]
        cases numM 1000 (wd (rs s)) with
        | none => rfl
        | some k =>
          simp only [Option.map_some, List.length_map]
          by_cases hb : bl (rs (rs s)) = []
          · rw [words_nil.2 hb]
            simp only
            by_cases hl : st.length ≤ 8
            · rw [if_pos hl, if_pos ⟨hb, hl⟩]; rfl
            · rw [if_neg hl, if_neg (fun h => hl h.2)]; rfl
          · rw [if_neg (fun h => hb h.1)]
            cases hw : wordsR (rs (rs s)) with
            | nil => exact absurd (words_nil.1 hw) hb
            | cons x y => rfl
      · rw [if_neg ht, if_neg ht]
        by_cases he : wd s = wEnd
        · rw [if_pos he, if_pos he]
          by_cases hb : bl (rs s) = []
          · rw [words_nil.2 hb]
            match st with
            | [] => rfl
            | [b] => rfl
            | b :: c :: q =>
              simp only [List.map_cons, Option.map_some]
              rw [if_pos hb, blk_loop]
          · cases hw : wordsR (rs s) with
            | nil => exact absurd (words_nil.1 hw) hb
            | cons x y =>
              match st with
              | [] => rfl
              | [b] => rfl
              | b :: c :: q => simp only [List.map_cons]; rw [if_neg hb]; rfl
        · rw [if_neg he, if_neg he, hact]
          cases actP (wd s) (rs s) with
          | none => rfl
          | some x =>
            cases st with
            | nil => rfl
            | cons b q => simp only [List.map_cons, Option.map_some, blk_act]
def goR : List Tx → Nat → List Opn → Except Nat (List Opn)
  | [], _, st => .ok st
  | s :: r, i, st => match lineR st s (i + 1) with
    | none => .error (i + 1)
    | some st' => goR r (i + 1) st'
theorem go_law : ∀ (l : List Tx) (i : Nat) (st : List Opn), goP l i (st.map blk) = match goR l i st with | .error n => .error n | .ok s => .ok (s.map blk)
  | [], i, st => rfl
  | s :: r, i, st => by
    have h := line_law st s (i + 1)
    simp only [goP, goR]
    rw [← h]
    cases lineR st s (i + 1) with
    | none => rfl
    | some st' => exact go_law r (i + 1) st'
def stR : List Opn := [⟨[], 0, 0⟩]
theorem parse_law (t : Tx) (ht : t.length ≤ 65536) : parseP t = match goR (lns t) 0 stR with
    | .error n => ([], n, 8)
    | .ok [o] => if 4096 < manyS o.l then ([], 0, 3) else (actsS o.l, 0, 0)
    | .ok (o :: _ :: _) => ([], o.line, 11)
    | .ok [] => ([], 0, 0) := by
  unfold parseP
  rw [if_neg (by omega), show st0 = stR.map blk from rfl, go_law]
  cases goR (lns t) 0 stR with
  | error n => rfl
  | ok st =>
    match st with
    | [] => rfl
    | [o] =>
      simp only [finP, List.map_cons, List.map_nil, blk]
      by_cases h : 4096 < manyS o.l
      · rw [if_pos h, if_pos h]
      · rw [if_neg h, if_neg h, if_pos (by omega)]
    | o :: p :: q => rfl
end Go.Proofs.YtcjlbimmplejjaaGreatDoor.ScRp
namespace Go.Proofs.YtcjlbimmplejjaaGreatDoor.ScPf
open Go Go.RowKit Go.Proofs Go.Proofs.YtcjlbimmplejjaaGreatDoor.Sep Go.Proofs.YtcjlbimmplejjaaGreatDoor.Reg Go.Proofs.YtcjlbimmplejjaaGreatDoor.Fork Go.Proofs.YtcjlbimmplejjaaGreatDoor.Held Go.Proofs.YtcjlbimmplejjaaGreatDoor.Frame Go.Proofs.YtcjlbimmplejjaaGreatDoor.Strs Go.Proofs.YtcjlbimmplejjaaGreatDoor.WdP Go.Proofs.YtcjlbimmplejjaaGreatDoor.WdT Go.Proofs.YtcjlbimmplejjaaGreatDoor.ScP Go.Proofs.YtcjlbimmplejjaaGreatDoor.ScB Go.Proofs.YtcjlbimmplejjaaGreatDoor.ScI Go.Proofs.YtcjlbimmplejjaaGreatDoor.ScM Go.Proofs.YtcjlbimmplejjaaGreatDoor.ScW Go.Proofs.YtcjlbimmplejjaaGreatDoor.ScNu Go.Proofs.YtcjlbimmplejjaaGreatDoor.ScRp Go.Proofs.YtcjlbimmplejjaaGreatDoor.ScPa Go.Proofs.YtcjlbimmplejjaaGreatDoor.ScPb

theorem u8_bne {c d : UInt8} (h : c ≠ d) : ((c.toNat : Int) != (d.toNat : Int)) = true := by rw [bne, u8_ne h]; rfl
theorem u8_beq {c d : UInt8} (h : c = d) : ((c.toNat : Int) != (d.toNat : Int)) = false := by rw [bne, u8_eq h]; rfl
/-! ### number -/
def numV (most : Nat) (s : Tx) : Int := match numM most s with | some n => n | none => -1
theorem numM_long {most : Nat} {s : Tx} (hm : most ≤ 4294967295) (h : 10 < s.length) : numM most s = none := by
  unfold numM
  cases hn : num s with
  | none => rfl
  | some n =>
    have h1 := (num_inv hn).1
    simp only [Option.bind_some]
    rw [if_neg]
    intro hle
    have := WdP.dec_len 10 n (by omega) (by omega)
    rw [← h1] at this; omega
theorem numM_head {most : Nat} {c : UInt8} {r : Tx} (hc : c = 48) (hr : r ≠ []) : numM most (c :: r) = none := by
  have : num (c :: r) = none := by
    unfold num
    rw [if_pos]
    right; right
    subst hc
    cases r with
    | nil => exact absurd rfl hr
    | cons d r => simp
  unfold numM; rw [this]; rfl
theorem numM_from {most : Nat} {c : UInt8} {r : Tx} (hl : (c :: r).length ≤ 10) (h0 : c ≠ 48 ∨ r = []) : numM most (c :: r) = (numFrom 0 (c :: r)).bind fun n => if n ≤ most then some n else none := by
  unfold numM num
  rw [if_neg]
  rintro (h | h | ⟨h1, h2⟩)
  · cases h
  · omega
  · rcases h0 with h0 | rfl
    · simp at h2; exact h0 h2
    · simp at h1
theorem from_bad {acc : Nat} {c : UInt8} {r : Tx} (h : c.toNat < 48 ∨ 57 < c.toNat) : numFrom acc (c :: r) = none := by
  simp only [numFrom]
  rw [if_pos (by omega)]
theorem from_ok {acc : Nat} {c : UInt8} {r : Tx} (h1 : 48 ≤ c.toNat) (h2 : c.toNat ≤ 57) (h : acc ≤ 10000000000) : numFrom acc (c :: r) = numFrom (10 * acc + (c.toNat - 48)) r := by
  simp only [numFrom]
  rw [if_neg (by omega), if_neg (by omega)]
set_option maxRecDepth 100000 in
set_option maxHeartbeats 16000000 in
theorem rNumber_any {W w : World} {R : Asn} (s : Tx) (most : Nat) (hm : most ≤ 4294967295) (h : St W w R) : Calls Tryz.prog 53 #[.string ⟨s.toArray⟩, .int .i64 (most : Nat)] w fun e w' => e = .returned (.int .i64 (numV most s)) ∧ St W w' R := by
  cases s with
  | nil =>
    have HV : Hid (numV most [] = -1) := Lib.hid rfl
    have HS := Lib.hid h
    clear h
    go_enter Tryz.func53, Tryz.ntmps53
    go_wp2
    go_ret
    exact ⟨by rw [HV.out]; rfl, HS.out⟩
  | cons c r =>
  by_cases hlong : 10 < (c :: r).length
  · have HV : Hid (numV most (c :: r) = -1) := Lib.hid (by unfold numV; rw [numM_long hm hlong])
    have hlI : (10 : Int) < ((c :: r).length : Int) := by omega
    have hz : (((c :: r).length : Int) == 0) = false := by rw [beq_eq_false_iff_ne]; simp only [List.length_cons]; omega
    have HS := Lib.hid h
    generalize c :: r = s at *
    clear h hlong
    go_enter Tryz.func53, Tryz.ntmps53
    go_wp2
    go_ret
    exact ⟨by rw [HV.out]; rfl, HS.out⟩
  have hlI : ¬ (10 : Int) < ((c :: r).length : Int) := by omega
  have hz : (((c :: r).length : Int) == 0) = false := by rw [beq_eq_false_iff_ne]; simp only [List.length_cons]; omega
  have hsz0 : 0 < (ByteArray.mk (c :: r).toArray).size := by simp [ByteArray.size]
  have hc0 : (ByteArray.mk (c :: r).toArray)[0]'hsz0 = c := rfl
  by_cases hbad : c = 48 ∧ r ≠ []
  · have HV : Hid (numV most (c :: r) = -1) := Lib.hid (by unfold numV; rw [numM_head hbad.1 hbad.2])
    have h48 : ((c.toNat : Int) == 48) = true := u8_eq hbad.1
    have h1I : (1 : Int) < ((c :: r).length : Int) := by
      have : r.length ≠ 0 := fun h => hbad.2 (List.eq_nil_of_length_eq_zero h)
      simp only [List.length_cons]; omega
    have HS := Lib.hid h
    generalize c :: r = s at *
    clear h hlong hbad
    go_enter Tryz.func53, Tryz.ntmps53
    go_wp2
    go_ret
    exact ⟨by rw [HV.out]; rfl, HS.out⟩
  have HV : Hid (numM most (c :: r) = (numFrom 0 (c :: r)).bind fun n => if n ≤ most then some n else none) := Lib.hid (numM_from (by omega) (by
    by_cases h1 : c = 48
    · exact .inr (Classical.byContradiction fun h2 => hbad ⟨h1, h2⟩)
    · exact .inl h1))
  have hcond : (((c.toNat : Int) == 48) = false) ∨ (((c.toNat : Int) == 48) = true ∧ ¬ (1 : Int) < ((c :: r).length : Int)) := by
    by_cases h1 : c = 48
    · right
      refine ⟨u8_eq h1, ?_⟩
      have : r = [] := Classical.byContradiction fun h2 => hbad ⟨h1, h2⟩
      subst this; simp
    · exact .inl (u8_ne h1)
  generalize c :: r = s at *
  have hl10 : s.length ≤ 10 := by omega
  clear hbad hlong
  rcases hcond with h48 | ⟨h48, h1I⟩
  · skip
    go_enter Tryz.func53, Tryz.ntmps53
    go_wp2_with fail
    go_loopw [5, 6] (fun nv iv wr => ∃ (i acc : Nat), i ≤ s.length ∧ iv = .int .i64 i ∧ nv = .int .i64 acc ∧ acc + 1 ≤ 10 ^ i ∧ Hid (numFrom 0 s = numFrom acc (s.drop i)) ∧ St W wr R) (fun _ iv _ => s.length - (intOf iv).toNat)
    case atStart => exact ⟨0, 0, Nat.zero_le _, rfl, rfl, by decide, Lib.hid rfl, h⟩
    case round =>
      obtain ⟨i, acc, hi, rfl, rfl, hpow, HN, hS⟩ := hrel
      have hp10 : 10 ^ i ≤ 10 ^ 10 := Nat.pow_le_pow_right (by decide) (by omega)
      have hacc : acc ≤ 10000000000 := by omega
      clear h hc0 hsz0 h48 hp10
      by_cases hin : i < s.length
      · have hiI : (i : Int) < s.length := by omega
        have hsz : i < (ByteArray.mk s.toArray).size := by simpa [ByteArray.size] using hin
        have hdr : s.drop i = (ByteArray.mk s.toArray)[i]'hsz :: s.drop (i + 1) := by
          rw [List.drop_eq_getElem_cons hin]; rfl
        generalize hc : (ByteArray.mk s.toArray)[i]'hsz = d at *
        by_cases hlo : d.toNat < 48
        · have hloI : (d.toNat : Int) < 48 := by omega
          have HF : Hid (numV most s = -1) := Lib.hid (by unfold numV; rw [HV.out, HN.out, hdr, from_bad (.inl hlo)]; rfl)
          have HS := Lib.hid hS
          clear hS hdr hpow hlo
          go_wp2
          go_ret
          exact ⟨by rw [HF.out]; rfl, HS.out⟩
        have hloI : ¬ (d.toNat : Int) < 48 := by omega
        by_cases hhi : 57 < d.toNat
        · have hhiI : (57 : Int) < (d.toNat : Int) := by omega
          have HF : Hid (numV most s = -1) := Lib.hid (by unfold numV; rw [HV.out, HN.out, hdr, from_bad (.inr hhi)]; rfl)
          have HS := Lib.hid hS
          clear hS hdr hpow hlo hhi
          go_wp2
          go_ret
          exact ⟨by rw [HF.out]; rfl, HS.out⟩
        have hhiI : ¬ (57 : Int) < (d.toNat : Int) := by omega
        have HN2 : Hid (numFrom 0 s = numFrom (10 * acc + (d.toNat - 48)) (s.drop (i + 1))) := Lib.hid (by rw [HN.out, hdr, from_ok (by omega) (by omega) hacc])
        have hpow2 : 10 * acc + (d.toNat - 48) + 1 ≤ 10 ^ (i + 1) := by rw [Nat.pow_succ]; omega
        obtain ⟨nx, hnx⟩ : ∃ z, 10 * acc + (d.toNat - 48) = z := ⟨_, rfl⟩
        rw [hnx] at HN2 hpow2
        have hnI : (10 : Int) * (acc : Int) + (d.toNat : Int) - 48 = (nx : Int) := by omega
        have HP2 := Lib.hid hpow2
        clear hdr hpow hlo hhi hnx hpow2
        go_wp2_with fail
        exact ⟨⟨i + 1, nx, hin, by go_num, by first | rfl | go_num | (rw [hnI]), HP2.out, HN2, hS⟩, by simp [intOf]; omega⟩
      · obtain rfl : s.length = i := by omega
        have hdr : s.drop s.length = [] := List.drop_length
        have HN2 : Hid (numM most s = if acc ≤ most then some acc else none) := Lib.hid (by rw [HV.out, HN.out, hdr]; rfl)
        have HS := Lib.hid hS
        clear hS hdr hpow
        by_cases hle : acc ≤ most
        · have hleI : ¬ (most : Int) < (acc : Int) := by omega
          have HF : Hid (numV most s = acc) := Lib.hid (by unfold numV; rw [HN2.out, if_pos hle])
          go_wp2
          go_ret
          exact ⟨by rw [HF.out]; rfl, HS.out⟩
        · have hleI : (most : Int) < (acc : Int) := by omega
          have HF : Hid (numV most s = -1) := Lib.hid (by unfold numV; rw [HN2.out, if_neg hle])
          go_wp2
          go_ret
          exact ⟨by rw [HF.out]; rfl, HS.out⟩
  · skip
    go_enter Tryz.func53, Tryz.ntmps53
    go_wp2_with fail
    go_loopw [5, 6] (fun nv iv wr => ∃ (i acc : Nat), i ≤ s.length ∧ iv = .int .i64 i ∧ nv = .int .i64 acc ∧ acc + 1 ≤ 10 ^ i ∧ Hid (numFrom 0 s = numFrom acc (s.drop i)) ∧ St W wr R) (fun _ iv _ => s.length - (intOf iv).toNat)
    case atStart => exact ⟨0, 0, Nat.zero_le _, rfl, rfl, by decide, Lib.hid rfl, h⟩
    case round =>
      obtain ⟨i, acc, hi, rfl, rfl, hpow, HN, hS⟩ := hrel
      have hp10 : 10 ^ i ≤ 10 ^ 10 := Nat.pow_le_pow_right (by decide) (by omega)
      have hacc : acc ≤ 10000000000 := by omega
      clear h hc0 hsz0 h48 hp10
      by_cases hin : i < s.length
      · have hiI : (i : Int) < s.length := by omega
        have hsz : i < (ByteArray.mk s.toArray).size := by simpa [ByteArray.size] using hin
        have hdr : s.drop i = (ByteArray.mk s.toArray)[i]'hsz :: s.drop (i + 1) := by
          rw [List.drop_eq_getElem_cons hin]; rfl
        generalize hc : (ByteArray.mk s.toArray)[i]'hsz = d at *
        by_cases hlo : d.toNat < 48
        · have hloI : (d.toNat : Int) < 48 := by omega
          have HF : Hid (numV most s = -1) := Lib.hid (by unfold numV; rw [HV.out, HN.out, hdr, from_bad (.inl hlo)]; rfl)
          have HS := Lib.hid hS
          clear hS hdr hpow hlo
          go_wp2
          go_ret
          exact ⟨by rw [HF.out]; rfl, HS.out⟩
        have hloI : ¬ (d.toNat : Int) < 48 := by omega
        by_cases hhi : 57 < d.toNat
        · have hhiI : (57 : Int) < (d.toNat : Int) := by omega
          have HF : Hid (numV most s = -1) := Lib.hid (by unfold numV; rw [HV.out, HN.out, hdr, from_bad (.inr hhi)]; rfl)
          have HS := Lib.hid hS
          clear hS hdr hpow hlo hhi
          go_wp2
          go_ret
          exact ⟨by rw [HF.out]; rfl, HS.out⟩
        have hhiI : ¬ (57 : Int) < (d.toNat : Int) := by omega
        have HN2 : Hid (numFrom 0 s = numFrom (10 * acc + (d.toNat - 48)) (s.drop (i + 1))) := Lib.hid (by rw [HN.out, hdr, from_ok (by omega) (by omega) hacc])
        have hpow2 : 10 * acc + (d.toNat - 48) + 1 ≤ 10 ^ (i + 1) := by rw [Nat.pow_succ]; omega
        obtain ⟨nx, hnx⟩ : ∃ z, 10 * acc + (d.toNat - 48) = z := ⟨_, rfl⟩
        rw [hnx] at HN2 hpow2
        have hnI : (10 : Int) * (acc : Int) + (d.toNat : Int) - 48 = (nx : Int) := by omega
        have HP2 := Lib.hid hpow2
        clear hdr hpow hlo hhi hnx hpow2
        go_wp2_with fail
        exact ⟨⟨i + 1, nx, hin, by go_num, by first | rfl | go_num | (rw [hnI]), HP2.out, HN2, hS⟩, by simp [intOf]; omega⟩
      · obtain rfl : s.length = i := by omega
        have hdr : s.drop s.length = [] := List.drop_length
        have HN2 : Hid (numM most s = if acc ≤ most then some acc else none) := Lib.hid (by rw [HV.out, HN.out, hdr]; rfl)
        have HS := Lib.hid hS
        clear hS hdr hpow
        by_cases hle : acc ≤ most
        · have hleI : ¬ (most : Int) < (acc : Int) := by omega
          have HF : Hid (numV most s = acc) := Lib.hid (by unfold numV; rw [HN2.out, if_pos hle])
          go_wp2
          go_ret
          exact ⟨by rw [HF.out]; rfl, HS.out⟩
        · have hleI : (most : Int) < (acc : Int) := by omega
          have HF : Hid (numV most s = -1) := Lib.hid (by unfold numV; rw [HN2.out, if_neg hle])
          go_wp2
          go_ret
          exact ⟨by rw [HF.out]; rfl, HS.out⟩
/-! ### hex -/
def hexV (c : UInt8) : Int := match hexI c with | some n => n | none => -1
set_option maxRecDepth 100000 in
theorem hex_any (c : UInt8) (w : World) : Calls Tryz.prog 93 #[.int .u8 c.toNat] w fun e w' => e = .returned (.int .i64 (hexV c)) ∧ w' = w := by
  have hlt := c.toNat_lt
  by_cases h1 : c.toNat < 48
  · have HV : Hid (hexV c = -1) := Lib.hid (by unfold hexV hexI; rw [if_neg (by omega), if_neg (by omega)])
    have i1 : ¬ (c.toNat : Int) ≥ 48 := by omega
    have i2 : ¬ (c.toNat : Int) ≥ 97 := by omega
    clear h1
    go_enter Tryz.func93, Tryz.ntmps93
    go_wp2
    go_ret
    exact ⟨by rw [HV.out]; rfl, rfl⟩
  by_cases h2 : c.toNat ≤ 57
  · have HV : Hid (hexV c = (c.toNat : Int) - 48) := Lib.hid (by unfold hexV hexI; rw [if_pos (by omega)]; simp only; omega)
    have i1 : (c.toNat : Int) ≥ 48 := by omega
    have i2 : (c.toNat : Int) ≤ 57 := by omega
    clear h1 h2
    go_enter Tryz.func93, Tryz.ntmps93
    go_wp2
    go_ret
    exact ⟨by rw [HV.out]; rfl, rfl⟩
  by_cases h3 : c.toNat < 97
  · have HV : Hid (hexV c = -1) := Lib.hid (by unfold hexV hexI; rw [if_neg (by omega), if_neg (by omega)])
    have i1 : (c.toNat : Int) ≥ 48 := by omega
    have i2 : ¬ (c.toNat : Int) ≤ 57 := by omega
    have i3 : ¬ (c.toNat : Int) ≥ 97 := by omega
    clear h1 h2 h3
    go_enter Tryz.func93, Tryz.ntmps93
    go_wp2
    go_ret
    exact ⟨by rw [HV.out]; rfl, rfl⟩
  by_cases h4 : c.toNat ≤ 102
  · have HV : Hid (hexV c = (c.toNat : Int) - 97 + 10) := Lib.hid (by unfold hexV hexI; rw [if_neg (by omega), if_pos (by omega)]; simp only; omega)
    have i1 : (c.toNat : Int) ≥ 48 := by omega
    have i2 : ¬ (c.toNat : Int) ≤ 57 := by omega
    have i3 : (c.toNat : Int) ≥ 97 := by omega
    have i4 : (c.toNat : Int) ≤ 102 := by omega
    clear h1 h2 h3 h4
    go_enter Tryz.func93, Tryz.ntmps93
    go_wp2
    go_ret
    exact ⟨by rw [HV.out]; rfl, rfl⟩
  have HV : Hid (hexV c = -1) := Lib.hid (by unfold hexV hexI; rw [if_neg (by omega), if_neg (by omega)])
  have i1 : (c.toNat : Int) ≥ 48 := by omega
  have i2 : ¬ (c.toNat : Int) ≤ 57 := by omega
  have i3 : (c.toNat : Int) ≥ 97 := by omega
  have i4 : ¬ (c.toNat : Int) ≤ 102 := by omega
  clear h1 h2 h3 h4
  go_enter Tryz.func93, Tryz.ntmps93
  go_wp2
  go_ret
  exact ⟨by rw [HV.out]; rfl, rfl⟩
/-! ### kind -/
def kindV (s : Tx) : Nat := match shp s with | some h => h.k | none => 0
theorem shp_kind {k : Nat} (h1 : 1 ≤ k) (h9 : k < 10) : ∃ h, shp (shW k) = some h ∧ h.k = k ∧ h.c = shC k ∧ h.s = shS k ∧ (match h.m with | some m => (m : Int) | none => -1) = shN k := by
  have : k = 1 ∨ k = 2 ∨ k = 3 ∨ k = 4 ∨ k = 5 ∨ k = 6 ∨ k = 7 ∨ k = 8 ∨ k = 9 := by omega
  rcases this with rfl | rfl | rfl | rfl | rfl | rfl | rfl | rfl | rfl
  all_goals exact ⟨_, rfl, rfl, rfl, rfl, rfl⟩
theorem shp_none {s : Tx} (h : ∀ k, 1 ≤ k → k < 10 → shW k ≠ s) : shp s = none := by
  unfold shp
  rw [Option.map_eq_none_iff, List.find?_eq_none]
  intro e he
  have hall : ∀ e ∈ shps, (1 ≤ e.2.k ∧ e.2.k < 10) ∧ shW e.2.k = e.1 := by decide
  obtain ⟨⟨h1, h9⟩, hw⟩ := hall e he
  have := h _ h1 h9
  rw [hw] at this
  simpa using this
theorem kindV_of {k : Nat} (h1 : 1 ≤ k) (h9 : k < 10) : kindV (shW k) = k := by
  obtain ⟨h, h2, h3, -⟩ := shp_kind h1 h9
  unfold kindV; rw [h2]; exact h3
def natOf : Value → Nat
  | .int _ n => n.toNat
  | _ => 0
set_option maxRecDepth 100000 in
set_option maxHeartbeats 4000000 in
theorem kind_any {W w : World} {R : Asn} (s : Tx) (h : St W w R) : Calls Tryz.prog 74 #[.string ⟨s.toArray⟩] w fun e w' => e = .returned (.int .u8 (kindV s : Nat)) ∧ St W w' R := by
  go_enter Tryz.func74, Tryz.ntmps74
  go_wp2_with fail
  go_loopw [3] (fun kv wr => ∃ k : Nat, 1 ≤ k ∧ k ≤ 10 ∧ kv = .int .u8 k ∧ Hid (∀ j, 1 ≤ j → j < k → shW j ≠ s) ∧ St W wr R) (fun kv _ => 10 - natOf kv)
  case atStart => exact ⟨1, Nat.le_refl _, by omega, rfl, Lib.hid (fun j h1 h2 => by omega), h⟩
  case round =>
    obtain ⟨k, hk1, hk10, rfl, HK, hS⟩ := hrel
    clear h
    by_cases hk : k < 10
    · have hkI : (k : Int) < 10 := by omega
      have HSp := Lib.hid (Shape_any k wr)
      have HKV : Hid (shW k = s → kindV s = k) := Lib.hid fun h => by rw [← h]; exact kindV_of hk1 hk
      unfold shT at HSp
      by_cases hw : shW k = s
      · have HR : Hid (kindV s = k) := Lib.hid (HKV.out hw)
        have hb : (shW k == s) = true := by rw [hw]; simp
        have HS := Lib.hid hS
        generalize shW k = sw at *
        generalize shC k = sc at *
        generalize shS k = ss at *
        generalize shN k = sn at *
        clear hS HKV
        subst hw
        go_wp2_with fail
        refine HSp.out.mono ?_
        rintro e w2 ⟨rfl, rfl⟩
        clear HSp
        go_wp2
        go_ret
        exact ⟨by rw [HR.out]; rfl, HS.out⟩
      · have hb : (shW k == s) = false := by simpa using hw
        have HK2 : Hid (∀ j, 1 ≤ j → j < k + 1 → shW j ≠ s) := Lib.hid (by
          intro j h1 h2
          by_cases hj : j < k
          · exact HK.out j h1 hj
          · obtain rfl : j = k := by omega
            exact hw)
        have HS := Lib.hid hS
        generalize shW k = sw at *
        generalize shC k = sc at *
        generalize shS k = ss at *
        generalize shN k = sn at *
        clear hS HKV hw HK
        go_wp2_with fail
        refine HSp.out.mono ?_
        rintro e w2 ⟨rfl, rfl⟩
        clear HSp
        go_wp2_with fail
        exact ⟨⟨k + 1, by omega, by omega, by go_num, HK2, HS.out⟩, by simp [natOf]; omega⟩
    · obtain rfl : k = 10 := by omega
      have HR : Hid (kindV s = 0) := Lib.hid (by unfold kindV; rw [shp_none fun k h1 h2 => HK.out k h1 h2])
      have HS := Lib.hid hS
      clear hS
      go_wp2
      go_ret
      exact ⟨by rw [HR.out]; rfl, HS.out⟩
end Go.Proofs.YtcjlbimmplejjaaGreatDoor.ScPf
namespace Go.Proofs.YtcjlbimmplejjaaGreatDoor.ScPg
open Go Go.RowKit Go.Proofs Go.Proofs.YtcjlbimmplejjaaGreatDoor.Sep Go.Proofs.YtcjlbimmplejjaaGreatDoor.Reg Go.Proofs.YtcjlbimmplejjaaGreatDoor.Fork Go.Proofs.YtcjlbimmplejjaaGreatDoor.Held Go.Proofs.YtcjlbimmplejjaaGreatDoor.Frame Go.Proofs.YtcjlbimmplejjaaGreatDoor.Strs Go.Proofs.YtcjlbimmplejjaaGreatDoor.WdP Go.Proofs.YtcjlbimmplejjaaGreatDoor.WdT Go.Proofs.YtcjlbimmplejjaaGreatDoor.ScP Go.Proofs.YtcjlbimmplejjaaGreatDoor.ScB Go.Proofs.YtcjlbimmplejjaaGreatDoor.ScI Go.Proofs.YtcjlbimmplejjaaGreatDoor.ScM Go.Proofs.YtcjlbimmplejjaaGreatDoor.ScA Go.Proofs.YtcjlbimmplejjaaGreatDoor.ScW Go.Proofs.YtcjlbimmplejjaaGreatDoor.ScNu Go.Proofs.YtcjlbimmplejjaaGreatDoor.ScRp Go.Proofs.YtcjlbimmplejjaaGreatDoor.ScPa Go.Proofs.YtcjlbimmplejjaaGreatDoor.ScPb Go.Proofs.YtcjlbimmplejjaaGreatDoor.ScPf

theorem infoT : (Tryz.prog.info? 9).map (fun i => (i.zero, i.size, i.bytes)) = some (some (.string ByteArray.empty), 1, 16) := by kernel_rfl
/-- A call that hands back a new slice of texts. -/
def TPst (W : World) (l : List Tx) (R : Asn) (e : Ending) (w' : World) : Prop := ∃ a c, e = .returned (.slice a l.length c) ∧ St W w' (star (Row 9 1 (.slice a l.length c) l.length (strsV l)) R)

/-! ### lines -/
def LR (t : Tx) (acc : List Tx) (at' i : Nat) : Prop := (i ≤ t.length ∧ at' ≤ i ∧ ∃ x xs, lns (t.drop i) = x :: xs ∧ lns t = acc ++ ((t.drop at').take (i - at') ++ x) :: xs) ∨ (i = t.length + 1 ∧ lns t = acc)
theorem LR.start (t : Tx) : LR t [] 0 0 := by
  obtain ⟨x, xs, h⟩ := lns_ne t
  exact .inl ⟨Nat.zero_le _, Nat.le_refl _, x, xs, h, by simpa using h⟩
theorem LR.le {t : Tx} {acc : List Tx} {at' i : Nat} (h : LR t acc at' i) (hi : i ≤ t.length) : at' ≤ i := by
  rcases h with h | ⟨h, -⟩
  · exact h.2.1
  · omega
theorem LR.last {t : Tx} {acc : List Tx} {at' : Nat} (h : LR t acc at' t.length) : LR t (acc ++ [(t.drop at').take (t.length - at')]) (t.length + 1) (t.length + 1) := by
  rcases h with ⟨-, h2, x, xs, h3, h4⟩ | ⟨h, -⟩
  · rw [List.drop_length] at h3
    simp only [lns, List.cons.injEq] at h3
    obtain ⟨rfl, rfl⟩ := h3
    exact .inr ⟨rfl, by rw [h4, List.append_nil]⟩
  · omega
theorem LR.cut {t : Tx} {acc : List Tx} {at' i : Nat} (h : LR t acc at' i) (hi : t[i]? = some 10) : LR t (acc ++ [(t.drop at').take (i - at')]) (i + 1) (i + 1) := by
  have hlt := (List.getElem?_eq_some_iff.1 hi).1
  rcases h with ⟨-, h2, x, xs, h3, h4⟩ | ⟨h, -⟩
  · have hd : t.drop i = 10 :: t.drop (i + 1) := by
      rw [List.drop_eq_getElem_cons hlt, (List.getElem?_eq_some_iff.1 hi).2]
    rw [hd, lns_end] at h3
    obtain ⟨rfl, rfl⟩ := List.cons.inj h3
    obtain ⟨y, ys, hy⟩ := lns_ne (t.drop (i + 1))
    refine .inl ⟨hlt, Nat.le_refl _, y, ys, hy, ?_⟩
    rw [h4, hy]; simp
  · omega
theorem LR.on {t : Tx} {acc : List Tx} {at' i : Nat} {c : UInt8} (h : LR t acc at' i) (hi : t[i]? = some c) (hc : c ≠ 10) : LR t acc at' (i + 1) := by
  have hlt := (List.getElem?_eq_some_iff.1 hi).1
  rcases h with ⟨-, h2, x, xs, h3, h4⟩ | ⟨h, -⟩
  · have hd : t.drop i = c :: t.drop (i + 1) := by
      rw [List.drop_eq_getElem_cons hlt, (List.getElem?_eq_some_iff.1 hi).2]
    obtain ⟨y, ys, hy⟩ := lns_ne (t.drop (i + 1))
    rw [hd, lns_cons c _ y ys hc hy] at h3
    obtain ⟨rfl, rfl⟩ := List.cons.inj h3
    refine .inl ⟨hlt, by omega, y, ys, hy, ?_⟩
    rw [h4]
    have : (t.drop at').take (i + 1 - at') = (t.drop at').take (i - at') ++ [c] := by
      rw [show i + 1 - at' = (i - at') + 1 from by omega, List.take_add_one, List.getElem?_drop, show at' + (i - at') = i from by omega, hi]; rfl
    rw [this]; simp
  · omega
theorem LR.few {t : Tx} {acc : List Tx} {at' i : Nat} (h : LR t acc at' i) : acc.length ≤ (lns t).length := by
  rcases h with ⟨-, -, x, xs, -, h4⟩ | ⟨-, h⟩
  · rw [h4]; simp
  · rw [h]; exact Nat.le_refl _
theorem lns_few : ∀ t : Tx, (lns t).length ≤ t.length + 1
  | [] => by simp [lns]
  | c :: r => by
    have ih := lns_few r
    by_cases hc : c = 10
    · subst hc; rw [lns_end]; simpa using ih
    · obtain ⟨y, ys, hy⟩ := lns_ne r
      rw [lns_cons c r y ys hc hy]
      rw [hy] at ih
      simp only [List.length_cons] at ih ⊢; omega
set_option maxRecDepth 100000 in
set_option maxHeartbeats 16000000 in
theorem lines_any {W w : World} {R : Asn} (t : Tx) (ht : t.length ≤ 1000000) (h : St W w R) : Calls Tryz.prog 51 #[.string ⟨t.toArray⟩] w (TPst W (lns t) R) := by
  obtain ⟨iT, hiT, ht0, ht1, ht2⟩ := info_parts infoT
  have hfew := lns_few t
  go_enter Tryz.func51, Tryz.ntmps51
  go_wp2_with fail
  go_loopw [3, 4, 5] (fun lv av iv wr => ∃ (i at' : Nat) (acc : List Tx) (va : Option Addr) (vc : Nat), i ≤ t.length + 1 ∧ iv = .int .i64 i ∧ av = .int .i64 at' ∧ lv = .slice va acc.length vc ∧ Hid (LR t acc at' i) ∧ St W wr (star (Row 9 1 (.slice va acc.length vc) acc.length (strsV acc)) R)) (fun _ _ iv _ => t.length + 1 - (intOf iv).toNat)
  case atStart => exact ⟨0, 0, [], none, 0, Nat.zero_le _, rfl, rfl, rfl, Lib.hid (LR.start t), h.nilRow⟩
  case round =>
    obtain ⟨i, at', acc, va, vc, hi, rfl, rfl, rfl, HL, hS⟩ := hrel
    clear h
    by_cases hin : i ≤ t.length
    · have hiI : (i : Int) ≤ t.length := by omega
      have hat := HL.out.le hin
      have haf := HL.out.few
      have hext : (ByteArray.mk t.toArray).extract at' i = ByteArray.mk ((t.drop at').take (i - at')).toArray := str_extract _ _ _
      obtain ⟨cur, hcur⟩ : ∃ z, (t.drop at').take (i - at') = z := ⟨_, rfl⟩
      rw [hcur] at hext
      have HCU := Lib.hid hcur
      clear hcur
      by_cases hend : i = t.length
      · subst hend
        have HN : Hid (LR t (acc ++ [cur]) (t.length + 1) (t.length + 1)) := Lib.hid (by rw [← HCU.out]; exact HL.out.last)
        go_wp2_with (at_builtin; refine wpList_append1 rfl (.tmp 22) (.tmp 27) 54 rfl 9 iT (.string ByteArray.empty) 1 16 Tryz.underlying54 hiT ht0 ht1 ht2 rfl _ acc.length (strsV acc) rfl hS _ rfl rfl (by intro u hu; simp at hu; subst hu; rfl) (by unfold maxLen; omega) (by omega) ?_)
        intro a' c' w' hS2
        have hl : (acc ++ [cur]).length = acc.length + 1 := by simp
        have hS3 : St W w' (star (Row 9 1 (.slice (some ⟨a', 0, none⟩) (acc.length + 1) c') (acc.length + 1) (strsV (acc ++ [cur]))) R) := by rw [strsV_append]; exact hS2
        rw [← hl] at hS3 ⊢
        clear hS hS2 hl
        go_wp2_with fail
        exact ⟨⟨t.length + 1, t.length + 1, acc ++ [cur], some ⟨a', 0, none⟩, c', Nat.le_refl _, by first | rfl | go_num, by first | rfl | go_num, rfl, HN, hS3⟩, by simp [intOf]⟩
      · have hlt : i < t.length := by omega
        have hneI : ((i : Int) == (t.length : Int)) = false := by rw [beq_eq_false_iff_ne]; omega
        have hsz : i < (ByteArray.mk t.toArray).size := by simpa [ByteArray.size] using hlt
        have HGt := Lib.hid (ScI.get_at t i hsz)
        generalize hc : (ByteArray.mk t.toArray)[i]'hsz = c at *
        by_cases h10 : c = 10
        · have e10 : ((c.toNat : Int) == 10) = true := u8_eq h10
          have HN : Hid (LR t (acc ++ [cur]) (i + 1) (i + 1)) := Lib.hid (by rw [← HCU.out]; exact HL.out.cut (by rw [HGt.out, h10]))
          clear h10
          go_wp2_with (at_builtin; refine wpList_append1 rfl (.tmp 22) (.tmp 27) 54 rfl 9 iT (.string ByteArray.empty) 1 16 Tryz.underlying54 hiT ht0 ht1 ht2 rfl _ acc.length (strsV acc) rfl hS _ rfl rfl (by intro u hu; simp at hu; subst hu; rfl) (by unfold maxLen; omega) (by omega) ?_)
          intro a' c' w' hS2
          have hl : (acc ++ [cur]).length = acc.length + 1 := by simp
          have hS3 : St W w' (star (Row 9 1 (.slice (some ⟨a', 0, none⟩) (acc.length + 1) c') (acc.length + 1) (strsV (acc ++ [cur]))) R) := by rw [strsV_append]; exact hS2
          rw [← hl] at hS3 ⊢
          clear hS hS2 hl
          go_wp2_with fail
          exact ⟨⟨i + 1, i + 1, acc ++ [cur], some ⟨a', 0, none⟩, c', by omega, by first | rfl | go_num, by first | rfl | go_num, rfl, HN, hS3⟩, by simp [intOf]; omega⟩
        · have e10 : ((c.toNat : Int) == 10) = false := u8_ne h10
          have HN : Hid (LR t acc at' (i + 1)) := Lib.hid (HL.out.on HGt.out h10)
          clear h10
          go_wp2_with fail
          exact ⟨⟨i + 1, at', acc, va, vc, by omega, by go_num, rfl, rfl, HN, hS⟩, by simp [intOf]; omega⟩
    · obtain rfl : i = t.length + 1 := by omega
      have hiI : ¬ ((t.length + 1 : Nat) : Int) ≤ t.length := by omega
      have HE : Hid (lns t = acc) := Lib.hid (by
        rcases HL.out with ⟨h, -⟩ | ⟨-, h⟩
        · omega
        · exact h)
      have HS := Lib.hid hS
      clear hS
      go_wp2
      go_ret
      rw [HE.out]
      exact ⟨va, vc, rfl, HS.out⟩

/-! ### words -/
theorem wend_end (q : Bool) : wend q [] = 0 := by cases q <;> rfl
theorem wend_f {c : UInt8} {r : Tx} (h : c ≠ 32) : wend false (c :: r) = 1 + wend false r := by simp [wend, h]
theorem wend_sp (r : Tx) : wend false (32 :: r) = 0 := by simp [wend]
theorem wend_q (r : Tx) : wend true (34 :: r) = 1 + wend false r := by
  cases r with
  | nil => simp [wend]
  | cons d r => simp [wend]
theorem wend_b (r : Tx) : wend true (92 :: r) = 2 + wend true (r.drop 1) := by
  cases r with
  | nil => simp [wend]
  | cons d r => simp [wend]
theorem wend_t {c : UInt8} {r : Tx} (h1 : c ≠ 34) (h2 : c ≠ 92) : wend true (c :: r) = 1 + wend true r := by
  cases r with
  | nil => simp [wend, h2]
  | cons d r => simp [wend, h1, h2]
theorem words_few : ∀ (f : Nat) (s : Tx), (wordsF f s).length ≤ f
  | 0, _ => by simp [wordsF]
  | f + 1, [] => by simp [wordsF]
  | f + 1, c :: r => by
    unfold wordsF
    split
    · have := words_few f r; omega
    · split
      · simp
      · have := words_few f ((c :: r).drop (1 + wend (c == 34) r)); simp only [List.length_cons]; omega
set_option maxRecDepth 100000 in
set_option maxHeartbeats 16000000 in
theorem words_any {W w : World} {R : Asn} (s : Tx) (hs : s.length ≤ 1000000) (h : St W w R) : Calls Tryz.prog 52 #[.string ⟨s.toArray⟩] w (TPst W (wordsR s) R) := by
  obtain ⟨iT, hiT, ht0, ht1, ht2⟩ := info_parts infoT
  have hfew := words_few s.length s
  go_enter Tryz.func52, Tryz.ntmps52
  go_wp2_with fail
  go_loopw [3, 4] (fun lv iv wr => ∃ (i f : Nat) (acc : List Tx) (va : Option Addr) (vc : Nat), i ≤ s.length + 1 ∧ s.length ≤ f + i ∧ iv = .int .i64 i ∧ lv = .slice va acc.length vc ∧ Hid (wordsR s = acc ++ wordsF f (s.drop i)) ∧ St W wr (star (Row 9 1 (.slice va acc.length vc) acc.length (strsV acc)) R)) (fun _ iv _ => s.length + 1 - (intOf iv).toNat)
  case atStart => exact ⟨0, s.length, [], none, 0, Nat.zero_le _, by omega, rfl, rfl, Lib.hid rfl, h.nilRow⟩
  case round =>
    obtain ⟨i, f, acc, va, vc, hi, hf, rfl, rfl, HL, hS⟩ := hrel
    clear h
    have hal : acc.length ≤ 1000000 := by
      have h1 := congrArg List.length HL.out
      rw [List.length_append] at h1
      have h2 : (wordsR s).length ≤ s.length := hfew
      omega
    by_cases hin : i < s.length
    · have hiI : (i : Int) < s.length := by omega
      obtain ⟨f', rfl⟩ : ∃ f', f = f' + 1 := ⟨f - 1, by omega⟩
      have hsz : i < (ByteArray.mk s.toArray).size := by simpa [ByteArray.size] using hin
      have hdr : s.drop i = (ByteArray.mk s.toArray)[i]'hsz :: s.drop (i + 1) := by
        rw [List.drop_eq_getElem_cons hin]; rfl
      generalize hc : (ByteArray.mk s.toArray)[i]'hsz = c at *
      have HDR := Lib.hid hdr
      clear hdr
      by_cases h32 : c = 32
      · have e32 : ((c.toNat : Int) == 32) = true := u8_eq h32
        have HN : Hid (wordsR s = acc ++ wordsF f' (s.drop (i + 1))) := Lib.hid (by rw [HL.out, HDR.out, h32]; simp only [wordsF, if_true])
        clear h32
        go_wp2_with fail
        exact ⟨⟨i + 1, f', acc, va, vc, by omega, by omega, by go_num, rfl, HN, hS⟩, by simp [intOf]; omega⟩
      have e32 : ((c.toNat : Int) == 32) = false := u8_ne h32
      by_cases h35 : c = 35
      · have e35 : ((c.toNat : Int) == 35) = true := u8_eq h35
        have HN : Hid (wordsR s = acc) := Lib.hid (by rw [HL.out, HDR.out, h35]; simp only [wordsF]; rw [if_neg (by decide), if_pos trivial, List.append_nil])
        have HS := Lib.hid hS
        clear hS h35 h32
        go_wp2
        go_ret
        rw [HN.out]
        exact ⟨va, vc, rfl, HS.out⟩
      have e35 : ((c.toNat : Int) == 35) = false := u8_ne h35
      have HN : Hid (wordsR s = acc ++ ((c :: s.drop (i + 1)).take (1 + wend (c == 34) (s.drop (i + 1))) :: wordsF f' ((c :: s.drop (i + 1)).drop (1 + wend (c == 34) (s.drop (i + 1)))))) := Lib.hid (by
        rw [HL.out, HDR.out]; simp only [wordsF]; rw [if_neg h32, if_neg h35])
      obtain ⟨q0, hq0⟩ : ∃ b, (c == 34) = b := ⟨_, rfl⟩
      have hqI : ((c.toNat : Int) == 34) = q0 := by
        rw [← hq0]
        by_cases h : c = 34
        · have e1 : ((c.toNat : Int) == 34) = true := u8_eq h
          rw [e1]; subst h; rfl
        · have e1 : ((c.toNat : Int) == 34) = false := u8_ne h
          rw [e1]; exact (by simpa using h : (c == 34) = false).symm
      rw [hq0] at HN
      clear h32 h35 hq0
      go_wp2_with fail
      go_loopw [4, 6] (fun jv qv wr => ∃ (j : Nat) (q : Bool), i + 1 ≤ j ∧ j ≤ s.length + 1 ∧ jv = .int .i64 j ∧ qv = .bool q ∧ Hid (j + wend q (s.drop j) = i + (1 + wend q0 (s.drop (i + 1)))) ∧ St W wr (star (Row 9 1 (.slice va acc.length vc) acc.length (strsV acc)) R)) (fun jv _ _ => s.length + 1 - (intOf jv).toNat)
      case atStart => exact ⟨i + 1, q0, Nat.le_refl _, by omega, by go_num, rfl, Lib.hid (by omega), hS⟩
      case round =>
        clear hS e32 e35 hqI hc hsz
        obtain ⟨j, q, hj1, hj2, rfl, rfl, HJ, hS⟩ := hrel
        have HAF : Hid (wend q (s.drop j) = 0 → (s.drop i).take (j - i) = (c :: s.drop (i + 1)).take (1 + wend q0 (s.drop (i + 1))) ∧ wordsR s = acc ++ [(s.drop i).take (j - i)] ++ wordsF f' (s.drop j)) := Lib.hid (by
          intro h0
          have h1 := HJ.out
          rw [h0] at h1
          have h2 : j - i = 1 + wend q0 (s.drop (i + 1)) := by omega
          refine ⟨by rw [h2, HDR.out], ?_⟩
          rw [HN.out, ← h2, ← HDR.out, List.drop_drop, show i + (j - i) = j from by omega]
          simp)
        by_cases hjn : j < s.length
        · have hjI : (j : Int) < s.length := by omega
          have hszj : j < (ByteArray.mk s.toArray).size := by simpa [ByteArray.size] using hjn
          have hdrj : s.drop j = (ByteArray.mk s.toArray)[j]'hszj :: s.drop (j + 1) := by
            rw [List.drop_eq_getElem_cons hjn]; rfl
          generalize hcj : (ByteArray.mk s.toArray)[j]'hszj = d at *
          have HDJ := Lib.hid hdrj
          clear hdrj
          cases q with
          | false =>
            by_cases h32 : d = 32
            · have e32 : ((d.toNat : Int) != 32) = false := u8_beq h32
              have h0 : wend false (s.drop j) = 0 := by rw [HDJ.out, h32]; exact wend_sp _
              clear h32
              obtain ⟨-, hnx⟩ := HAF.out h0
              have hmin : min (j : Int) (s.length : Int) = ((min j s.length : Nat) : Int) := by omega
              have hext : (ByteArray.mk s.toArray).extract i (min j s.length) = ByteArray.mk ((s.drop i).take (j - i)).toArray := by
                rw [str_extract]
                congr 2
                by_cases hjl : j ≤ s.length
                · rw [Nat.min_eq_left hjl]
                · rw [Nat.min_eq_right (by omega), List.take_of_length_le (by rw [List.length_drop]; exact Nat.le_refl _), List.take_of_length_le (by rw [List.length_drop]; omega)]
              obtain ⟨mj, hmj⟩ : ∃ z, min j s.length = z := ⟨_, rfl⟩
              rw [hmj] at hmin hext
              have hmj1 : i ≤ mj := by omega
              have hmj2 : mj ≤ s.length := by omega
              obtain ⟨cur, hcur⟩ : ∃ z, (s.drop i).take (j - i) = z := ⟨_, rfl⟩
              rw [hcur] at hext hnx
              have HNX := Lib.hid hnx
              clear hcur hnx h0 hmj HAF
              go_wp2_with (at_builtin; refine wpList_append1 rfl (.tmp 60) (.tmp 68) 54 rfl 9 iT (.string ByteArray.empty) 1 16 Tryz.underlying54 hiT ht0 ht1 ht2 rfl _ acc.length (strsV acc) rfl hS _ rfl rfl (by intro u hu; simp at hu; subst hu; rfl) (by unfold maxLen; omega) (by omega) ?_)
              intro a' c' w' hS2
              have hl : (acc ++ [cur]).length = acc.length + 1 := by simp
              have hS3 : St W w' (star (Row 9 1 (.slice (some ⟨a', 0, none⟩) (acc.length + 1) c') (acc.length + 1) (strsV (acc ++ [cur]))) R) := by rw [strsV_append]; exact hS2
              rw [← hl] at hS3 ⊢
              clear hS hS2 hl
              go_wp2_with fail
              exact ⟨⟨j, f', acc ++ [cur], some ⟨a', 0, none⟩, c', hj2, by omega, by go_num, rfl, HNX.out, hS3⟩, by simp [intOf]; omega⟩
            · have e32 : ((d.toNat : Int) != 32) = true := u8_bne h32
              have HJ2 : Hid ((j + 1) + wend false (s.drop (j + 1)) = i + (1 + wend q0 (s.drop (i + 1)))) := Lib.hid (by
                have h1 := HJ.out
                rw [HDJ.out, wend_f h32] at h1; omega)
              clear h32 HAF
              go_wp2_with fail
              exact ⟨⟨j + 1, false, by omega, by omega, by go_num, rfl, HJ2, hS⟩, by simp [intOf]; omega⟩
          | true =>
            by_cases h34 : d = 34
            · have e34 : ((d.toNat : Int) == 34) = true := u8_eq h34
              have HJ2 : Hid ((j + 1) + wend false (s.drop (j + 1)) = i + (1 + wend q0 (s.drop (i + 1)))) := Lib.hid (by
                have h1 := HJ.out
                rw [HDJ.out, h34, wend_q] at h1; omega)
              clear h34 HAF
              go_wp2_with fail
              exact ⟨⟨j + 1, false, by omega, by omega, by go_num, rfl, HJ2, hS⟩, by simp [intOf]; omega⟩
            have e34 : ((d.toNat : Int) == 34) = false := u8_ne h34
            by_cases h92 : d = 92
            · have e92 : ((d.toNat : Int) == 92) = true := u8_eq h92
              have HJ2 : Hid ((j + 2) + wend true (s.drop (j + 2)) = i + (1 + wend q0 (s.drop (i + 1)))) := Lib.hid (by
                have h1 := HJ.out
                rw [HDJ.out, h92, wend_b, List.drop_drop, show j + 1 + 1 = j + 2 from rfl] at h1; omega)
              clear h34 h92 HAF
              go_wp2_with fail
              exact ⟨⟨j + 2, true, by omega, by omega, by go_num, rfl, HJ2, hS⟩, by simp [intOf]; omega⟩
            · have e92 : ((d.toNat : Int) == 92) = false := u8_ne h92
              have HJ2 : Hid ((j + 1) + wend true (s.drop (j + 1)) = i + (1 + wend q0 (s.drop (i + 1)))) := Lib.hid (by
                have h1 := HJ.out
                rw [HDJ.out, wend_t h34 h92] at h1; omega)
              clear h34 h92 HAF
              go_wp2_with fail
              exact ⟨⟨j + 1, true, by omega, by omega, by go_num, rfl, HJ2, hS⟩, by simp [intOf]; omega⟩
        · have hjI : ¬ (j : Int) < s.length := by omega
          have h0 : wend q (s.drop j) = 0 := by
            rw [List.drop_of_length_le (by omega)]; exact wend_end q
          obtain ⟨-, hnx⟩ := HAF.out h0
          have hmin : min (j : Int) (s.length : Int) = ((min j s.length : Nat) : Int) := by omega
          have hext : (ByteArray.mk s.toArray).extract i (min j s.length) = ByteArray.mk ((s.drop i).take (j - i)).toArray := by
            rw [str_extract]
            congr 2
            by_cases hjl : j ≤ s.length
            · rw [Nat.min_eq_left hjl]
            · rw [Nat.min_eq_right (by omega), List.take_of_length_le (by rw [List.length_drop]; exact Nat.le_refl _), List.take_of_length_le (by rw [List.length_drop]; omega)]
          obtain ⟨mj, hmj⟩ : ∃ z, min j s.length = z := ⟨_, rfl⟩
          rw [hmj] at hmin hext
          have hmj1 : i ≤ mj := by omega
          have hmj2 : mj ≤ s.length := by omega
          obtain ⟨cur, hcur⟩ : ∃ z, (s.drop i).take (j - i) = z := ⟨_, rfl⟩
          rw [hcur] at hext hnx
          have HNX := Lib.hid hnx
          clear hcur hnx h0 hmj HAF
          go_wp2_with (at_builtin; refine wpList_append1 rfl (.tmp 60) (.tmp 68) 54 rfl 9 iT (.string ByteArray.empty) 1 16 Tryz.underlying54 hiT ht0 ht1 ht2 rfl _ acc.length (strsV acc) rfl hS _ rfl rfl (by intro u hu; simp at hu; subst hu; rfl) (by unfold maxLen; omega) (by omega) ?_)
          intro a' c' w' hS2
          have hl : (acc ++ [cur]).length = acc.length + 1 := by simp
          have hS3 : St W w' (star (Row 9 1 (.slice (some ⟨a', 0, none⟩) (acc.length + 1) c') (acc.length + 1) (strsV (acc ++ [cur]))) R) := by rw [strsV_append]; exact hS2
          rw [← hl] at hS3 ⊢
          clear hS hS2 hl
          go_wp2_with fail
          exact ⟨⟨j, f', acc ++ [cur], some ⟨a', 0, none⟩, c', hj2, by omega, by go_num, rfl, HNX.out, hS3⟩, by simp [intOf]; omega⟩
    · have hiI : ¬ (i : Int) < s.length := by omega
      have HE : Hid (wordsR s = acc) := Lib.hid (by
        rw [HL.out, List.drop_of_length_le (by omega)]
        cases f <;> simp [wordsF])
      have HS := Lib.hid hS
      clear hS
      go_wp2
      go_ret
      rw [HE.out]
      exact ⟨va, vc, rfl, HS.out⟩
end Go.Proofs.YtcjlbimmplejjaaGreatDoor.ScPg
namespace Go.Proofs.YtcjlbimmplejjaaGreatDoor.ScPh
open Go Go.RowKit Go.Proofs Go.Proofs.YtcjlbimmplejjaaGreatDoor.Sep Go.Proofs.YtcjlbimmplejjaaGreatDoor.Reg Go.Proofs.YtcjlbimmplejjaaGreatDoor.Fork Go.Proofs.YtcjlbimmplejjaaGreatDoor.Held Go.Proofs.YtcjlbimmplejjaaGreatDoor.Frame Go.Proofs.YtcjlbimmplejjaaGreatDoor.Strs Go.Proofs.YtcjlbimmplejjaaGreatDoor.WdP Go.Proofs.YtcjlbimmplejjaaGreatDoor.WdT Go.Proofs.YtcjlbimmplejjaaGreatDoor.ScP Go.Proofs.YtcjlbimmplejjaaGreatDoor.ScB Go.Proofs.YtcjlbimmplejjaaGreatDoor.ScI Go.Proofs.YtcjlbimmplejjaaGreatDoor.ScM Go.Proofs.YtcjlbimmplejjaaGreatDoor.ScA Go.Proofs.YtcjlbimmplejjaaGreatDoor.ScW Go.Proofs.YtcjlbimmplejjaaGreatDoor.ScNu Go.Proofs.YtcjlbimmplejjaaGreatDoor.ScRp Go.Proofs.YtcjlbimmplejjaaGreatDoor.ScPa Go.Proofs.YtcjlbimmplejjaaGreatDoor.ScPb Go.Proofs.YtcjlbimmplejjaaGreatDoor.ScPf

def lst (s : Tx) (m i : Nat) : Tx := (s.drop i).take (m - i)
theorem lst_cons {s : Tx} {m i : Nat} {c : UInt8} (h : i < m) (hc : s[i]? = some c) : lst s m i = c :: lst s m (i + 1) := by
  have hlt := (List.getElem?_eq_some_iff.1 hc).1
  unfold lst
  rw [List.drop_eq_getElem_cons hlt, (List.getElem?_eq_some_iff.1 hc).2, show m - i = (m - (i + 1)) + 1 from by omega, List.take_succ_cons]
theorem lst_end {s : Tx} {m i : Nat} (h : m ≤ i) : lst s m i = [] := by
  unfold lst; rw [show m - i = 0 from by omega]; rfl
theorem lst_len (s : Tx) (m i : Nat) : (lst s m i).length ≤ m - i := by unfold lst; rw [List.length_take]; omega
theorem tstep {f : Nat} {c d : UInt8} {r q acc : Tx} (h34 : c ≠ 34) (h : nib (c :: r) = some (d, q)) : (textF (f + 1) (c :: r)).map (acc ++ ·) = (textF f q).map ((acc ++ [d]) ++ ·) := by
  simp only [textF]
  rw [if_neg h34, h]
  simp only
  cases textF f q <;> simp
theorem tnone {f : Nat} {c : UInt8} {r : Tx} (h : c = 34 ∨ nib (c :: r) = none) : textF (f + 1) (c :: r) = none := by
  simp only [textF]
  rcases h with h | h
  · rw [if_pos h]
  · split
    · rfl
    · rw [h]
theorem nib_out {c : UInt8} {r : Tx} (h : c.toNat < 32 ∨ 126 < c.toNat) : nib (c :: r) = none := by
  have : c ≠ 92 := by rintro rfl; rcases h with h | h <;> simp at h
  simp only [nib]
  rw [if_neg this, if_neg (by omega)]
theorem nib_in {c : UInt8} {r : Tx} (h92 : c ≠ 92) (h1 : 32 ≤ c.toNat) (h2 : c.toNat ≤ 126) : nib (c :: r) = some (c, r) := by
  simp only [nib]
  rw [if_neg h92, if_pos ⟨h1, h2⟩]
theorem nib_esc (r : Tx) : nib (92 :: r) = esc r := by simp [nib]
theorem esc_no {d : UInt8} {r : Tx} (h1 : d ≠ 110) (h2 : d ≠ 114) (h3 : d ≠ 34) (h4 : d ≠ 92) (h5 : d ≠ 120) : esc (d :: r) = none := by
  unfold esc
  simp only
  rw [if_neg h1, if_neg h2, if_neg h3, if_neg h4, if_neg h5]
theorem esc_x (r : Tx) : esc (120 :: r) = match r with
      | a :: b :: q => match hexI a, hexI b with
        | some x, some y => some (UInt8.ofNat (16 * x + y), q)
        | _, _ => none
      | _ => none := by
  unfold esc
  simp only
  rw [if_neg (by decide), if_neg (by decide), if_neg (by decide), if_neg (by decide), if_pos trivial]
  rfl
theorem hexI_lt {a : UInt8} {x : Nat} (h : hexI a = some x) : x < 16 := by
  unfold hexI at h
  split at h
  · cases h; omega
  · split at h
    · cases h; omega
    · cases h
theorem hexV_some {a : UInt8} {x : Nat} (h : hexI a = some x) : hexV a = x := by unfold hexV; rw [h]
theorem hexV_none {a : UInt8} (h : hexI a = none) : hexV a = -1 := by unfold hexV; rw [h]
def XPst (W : World) (s : Tx) (R : Asn) (e : Ending) (w' : World) : Prop := ∃ (t : Tx) (b : Bool), e = .returned (.tuple #[.string ⟨t.toArray⟩, .bool b]) ∧ textR s = (if b then some t else none) ∧ t.length ≤ s.length ∧ St W w' R
def tr28 : Tr := .plain 0 (.plain 1 (.plain 2 (.plain 5 (.plain 6 (.plain 7 (.plain 8 (.one 3 (.plain 4 (.one 9 (.plain 10 (.plain 11 (.plain 12 .done))))))))))))
set_option maxRecDepth 100000 in
set_option maxHeartbeats 16000000 in
theorem text_any {W w : World} {R : Asn} (s : Tx) (hs : s.length ≤ 1000000) (h : St W w R) : Calls Tryz.prog 75 #[.string ⟨s.toArray⟩] w (XPst W s R) := by
  by_cases hl2 : s.length < 2
  · have hlI : (s.length : Int) < 2 := by omega
    have HR : Hid (textR s = none) := Lib.hid (by unfold textR; rw [if_pos (.inl hl2)])
    have HS := Lib.hid h
    clear h hl2
    go_enter Tryz.func75, Tryz.ntmps75
    go_wp2
    go_ret2
    exact ⟨[], false, rfl, HR.out, Nat.zero_le _, HS.out⟩
  have hlI : ¬ (s.length : Int) < 2 := by omega
  have hsz0 : 0 < (ByteArray.mk s.toArray).size := by simp [ByteArray.size]; omega
  have HG0 := Lib.hid (ScI.get_at s 0 hsz0)
  generalize hc0 : (ByteArray.mk s.toArray)[0]'hsz0 = c0 at *
  by_cases h34 : c0 = 34
  case neg =>
    have e0 : ((c0.toNat : Int) != 34) = true := u8_bne h34
    have HR : Hid (textR s = none) := Lib.hid (by unfold textR; rw [if_pos (.inr (.inl (by rw [HG0.out]; simpa using h34)))])
    have HS := Lib.hid h
    clear h hl2 h34
    go_enter Tryz.func75, Tryz.ntmps75
    go_wp2
    go_ret2
    exact ⟨[], false, rfl, HR.out, Nat.zero_le _, HS.out⟩
  have e0 : ((c0.toNat : Int) != 34) = false := u8_beq h34
  obtain ⟨m, hm⟩ : ∃ m, s.length = m + 1 := ⟨s.length - 1, by omega⟩
  have hmI : (s.length : Int) - 1 = (m : Int) := by omega
  have hszm : m < (ByteArray.mk s.toArray).size := by simp [ByteArray.size]; omega
  have HGM := Lib.hid (ScI.get_at s m hszm)
  generalize hcm : (ByteArray.mk s.toArray)[m]'hszm = cm at *
  by_cases h34m : cm = 34
  case neg =>
    have em : ((cm.toNat : Int) != 34) = true := u8_bne h34m
    have HR : Hid (textR s = none) := Lib.hid (by unfold textR; rw [if_pos (.inr (.inr (by rw [hm, show m + 1 - 1 = m from rfl, HGM.out]; simpa using h34m)))])
    have HS := Lib.hid h
    clear h hl2 h34 h34m hm
    go_enter Tryz.func75, Tryz.ntmps75
    go_wp2
    go_ret2
    exact ⟨[], false, rfl, HR.out, Nat.zero_le _, HS.out⟩
  have em : ((cm.toNat : Int) != 34) = false := u8_beq h34m
  have HR : Hid (textR s = match textI (lst s m 1) with | none => none | some t => if t.length ≤ 4096 then some t else none) := Lib.hid (by
    unfold textR
    rw [if_neg]
    · rw [show s.length - 2 = m - 1 from by omega]; rfl
    · rintro (h | h | h)
      · omega
      · rw [HG0.out, h34] at h; exact h rfl
      · rw [hm, show m + 1 - 1 = m from rfl, HGM.out, h34m] at h; exact h rfl)
  have HM := Lib.hid hm
  have hm1 : 1 ≤ m := by omega
  have hm6 : m ≤ 1000000 := by omega
  have hml : m < s.length := by omega
  clear h34 h34m hl2 hm
  go_enter Tryz.func75, Tryz.ntmps75
  go_wp2_with fail
  clear e0 em hc0 hcm hszm hsz0
  go_loopw [5, 6] (fun sv iv wr => ∃ (i f : Nat) (acc : Tx), 1 ≤ i ∧ i ≤ m ∧ m ≤ f + i ∧ acc.length + 1 ≤ i ∧ iv = .int .i64 i ∧ sv = .string ⟨acc.toArray⟩ ∧ Hid (textI (lst s m 1) = (textF f (lst s m i)).map (acc ++ ·)) ∧ St W wr R) (fun _ iv _ => m - (intOf iv).toNat)
  case atStart => exact ⟨1, m, [], Nat.le_refl _, hm1, by omega, by simp, rfl, rfl, Lib.hid (by
      rw [textF_I (Nat.le_trans (lst_len s m 1) (by omega))]
      cases textI (lst s m 1) <;> simp), h⟩
  case round =>
    obtain ⟨i, f, acc, hi1, him, hf, hacc, rfl, rfl, HT, hS⟩ := hrel
    clear h
    have RET : Hid (textI (lst s m 1) = none → XPst W s R (.returned (.tuple #[.string ⟨([] : Tx).toArray⟩, .bool false])) wr) := Lib.hid fun h => ⟨[], false, rfl, by rw [HR.out, h]; rfl, Nat.zero_le _, hS⟩
    by_cases hin : i < m
    · have hiI : (i : Int) < (m : Int) := by omega
      obtain ⟨f', rfl⟩ : ∃ f', f = f' + 1 := ⟨f - 1, by omega⟩
      have hsz : i < (ByteArray.mk s.toArray).size := by simp [ByteArray.size]; omega
      have HGt := Lib.hid (ScI.get_at s i hsz)
      generalize hc : (ByteArray.mk s.toArray)[i]'hsz = c at *
      have HLC := Lib.hid (lst_cons hin HGt.out)
      have hlt := c.toNat_lt
      obtain ⟨j, hj⟩ : ∃ j, i + 1 = j := ⟨_, rfl⟩
      have hjI : (i : Int) + 1 = (j : Int) := by omega
      rw [hj] at HLC
      by_cases hlo : c.toNat < 32
      · have hloI : (c.toNat : Int) < 32 := by omega
        have HE := Lib.hid (RET.out (by rw [HT.out, HLC.out, tnone (.inr (nib_out (.inl hlo)))]; rfl))
        clear hlo hS RET
        go_wp2
        go_ret2
        exact HE.out
      have hloI : ¬ (c.toNat : Int) < 32 := by omega
      by_cases hhi : 126 < c.toNat
      · have hhiI : (126 : Int) < (c.toNat : Int) := by omega
        have HE := Lib.hid (RET.out (by rw [HT.out, HLC.out, tnone (.inr (nib_out (.inr hhi)))]; rfl))
        clear hlo hhi hS RET
        go_wp2
        go_ret2
        exact HE.out
      have hhiI : ¬ (126 : Int) < (c.toNat : Int) := by omega
      by_cases h34 : c = 34
      · have e34 : ((c.toNat : Int) == 34) = true := u8_eq h34
        have HE := Lib.hid (RET.out (by rw [HT.out, HLC.out, tnone (.inl h34)]; rfl))
        clear hlo hhi h34 hS RET
        go_wp2
        go_ret2
        exact HE.out
      have e34 : ((c.toNat : Int) == 34) = false := u8_ne h34
      by_cases h92 : c = 92
      case neg =>
        have e92 : ((c.toNat : Int) != 92) = true := u8_bne h92
        have HN : Hid (textI (lst s m 1) = (textF f' (lst s m j)).map ((acc ++ [c]) ++ ·)) := Lib.hid (by rw [HT.out, HLC.out, tstep h34 (nib_in h92 (by omega) (by omega))])
        have ha1 := run_str_add (P := Tryz.prog) acc [c] (by simp; omega)
        have hcv := run_string_one (P := Tryz.prog) 67 9 5 Tryz.underlying67 Tryz.underlying5 Tryz.underlying9 wr wr.heap.size rfl (c.toNat : Int) c.toNat rfl hlt (0, 0)
        rw [show UInt8.ofNat c.toNat = c from by simp] at hcv
        have hA := hS.alloc (.cells #[.int .u8 c.toNat] 5 (0, 0))
        have H2 := Lib.hid hA.right
        clear hA hS hlo hhi h34 h92 RET
        go_wp2_with fail
        exact ⟨⟨j, f', acc ++ [c], by omega, by omega, by omega, by rw [List.length_append, List.length_singleton]; omega, rfl, rfl, HN, H2.out⟩, by simp [intOf]; omega⟩
      have e92 : ((c.toNat : Int) != 92) = false := u8_beq h92
      by_cases hje : m ≤ j
      · have hjeI : (j : Int) ≥ (m : Int) := by omega
        have HE := Lib.hid (RET.out (by rw [HT.out, HLC.out, lst_end hje, h92, tnone (.inr (by rw [nib_esc]; rfl))]; rfl))
        clear hlo hhi h34 h92 hS RET
        go_wp2
        go_ret2
        exact HE.out
      have hjeI : ¬ (j : Int) ≥ (m : Int) := by omega
      have hszj : j < (ByteArray.mk s.toArray).size := by simp [ByteArray.size]; omega
      have HGj := Lib.hid (ScI.get_at s j hszj)
      generalize hcj : (ByteArray.mk s.toArray)[j]'hszj = d at *
      have HLJ := Lib.hid (lst_cons (by omega) HGj.out : lst s m j = d :: lst s m (j + 1))
      obtain ⟨k, hk⟩ : ∃ k, j + 1 = k := ⟨_, rfl⟩
      have hkI : (j : Int) + 1 = (k : Int) := by omega
      rw [hk] at HLJ
      have HT2 : Hid (textI (lst s m 1) = (textF (f' + 1) (92 :: d :: lst s m k)).map (acc ++ ·)) := Lib.hid (by rw [HT.out, HLC.out, HLJ.out, h92])
      clear h34 h92 hlo hhi
      have hkm : k ≤ m := by omega
      by_cases d110 : d = 110
      · subst d110
        have HN : Hid (textI (lst s m 1) = (textF f' (lst s m k)).map ((acc ++ [10]) ++ ·)) := Lib.hid (by rw [HT2.out, tstep (by decide) (by rw [nib_esc]; rfl)])
        have ha1 := run_str_add (P := Tryz.prog) acc [10] (by simp; omega)
        have hcv := run_string_one (P := Tryz.prog) 67 9 5 Tryz.underlying67 Tryz.underlying5 Tryz.underlying9 wr wr.heap.size rfl 10 10 rfl (by decide) (0, 0)
        have hA := hS.alloc (.cells #[.int .u8 10] 5 (0, 0))
        have H2 := Lib.hid hA.right
        clear hA hS RET
        go_wp2_with fail
        exact ⟨⟨k, f', acc ++ [10], by omega, by omega, by omega, by rw [List.length_append, List.length_singleton]; omega, rfl, rfl, HN, H2.out⟩, by simp [intOf]; omega⟩
      have f110 : ((d.toNat : Int) == 110) = false := u8_ne d110
      by_cases d114 : d = 114
      · subst d114
        have HN : Hid (textI (lst s m 1) = (textF f' (lst s m k)).map ((acc ++ [13]) ++ ·)) := Lib.hid (by rw [HT2.out, tstep (by decide) (by rw [nib_esc]; rfl)])
        have ha1 := run_str_add (P := Tryz.prog) acc [13] (by simp; omega)
        have hcv := run_string_one (P := Tryz.prog) 67 9 5 Tryz.underlying67 Tryz.underlying5 Tryz.underlying9 wr wr.heap.size rfl 13 13 rfl (by decide) (0, 0)
        have hA := hS.alloc (.cells #[.int .u8 13] 5 (0, 0))
        have H2 := Lib.hid hA.right
        clear hA hS RET
        go_wp2_with fail
        exact ⟨⟨k, f', acc ++ [13], by omega, by omega, by omega, by rw [List.length_append, List.length_singleton]; omega, rfl, rfl, HN, H2.out⟩, by simp [intOf]; omega⟩
      have f114 : ((d.toNat : Int) == 114) = false := u8_ne d114
      by_cases d34 : d = 34
      · subst d34
        have HN : Hid (textI (lst s m 1) = (textF f' (lst s m k)).map ((acc ++ [34]) ++ ·)) := Lib.hid (by rw [HT2.out, tstep (by decide) (by rw [nib_esc]; rfl)])
        have ha1 := run_str_add (P := Tryz.prog) acc [34] (by simp; omega)
        have hcv := run_string_one (P := Tryz.prog) 67 9 5 Tryz.underlying67 Tryz.underlying5 Tryz.underlying9 wr wr.heap.size rfl 34 34 rfl (by decide) (0, 0)
        have hA := hS.alloc (.cells #[.int .u8 34] 5 (0, 0))
        have H2 := Lib.hid hA.right
        clear hA hS RET
        go_wp2_with fail
        exact ⟨⟨k, f', acc ++ [34], by omega, by omega, by omega, by rw [List.length_append, List.length_singleton]; omega, rfl, rfl, HN, H2.out⟩, by simp [intOf]; omega⟩
      have f34 : ((d.toNat : Int) == 34) = false := u8_ne d34
      by_cases d92 : d = 92
      · subst d92
        have HN : Hid (textI (lst s m 1) = (textF f' (lst s m k)).map ((acc ++ [92]) ++ ·)) := Lib.hid (by rw [HT2.out, tstep (by decide) (by rw [nib_esc]; rfl)])
        have ha1 := run_str_add (P := Tryz.prog) acc [92] (by simp; omega)
        have hcv := run_string_one (P := Tryz.prog) 67 9 5 Tryz.underlying67 Tryz.underlying5 Tryz.underlying9 wr wr.heap.size rfl 92 92 rfl (by decide) (0, 0)
        have hA := hS.alloc (.cells #[.int .u8 92] 5 (0, 0))
        have H2 := Lib.hid hA.right
        clear hA hS RET
        go_wp2_with fail
        exact ⟨⟨k, f', acc ++ [92], by omega, by omega, by omega, by rw [List.length_append, List.length_singleton]; omega, rfl, rfl, HN, H2.out⟩, by simp [intOf]; omega⟩
      have f92 : ((d.toNat : Int) == 92) = false := u8_ne d92
      by_cases d120 : d = 120
      case neg =>
        have f120 : ((d.toNat : Int) == 120) = false := u8_ne d120
        have HE := Lib.hid (RET.out (by rw [HT2.out, tnone (.inr (by rw [nib_esc]; exact esc_no d110 d114 d34 d92 d120))]; rfl))
        clear d110 d114 d34 d92 d120 hS RET
        go_wp2
        go_ret2
        exact HE.out
      subst d120
      clear d110 d114 d34 d92 f110 f114 f34 f92
      by_cases hk2 : m < k + 2
      · have hk2I : (m : Int) < (k : Int) + 2 := by omega
        have HE := Lib.hid (RET.out (by
          have hx : esc (120 :: lst s m k) = none := by
            rw [esc_x]
            have h1 := lst_len s m k
            match hl : lst s m k, h1 with
            | [], _ => rfl
            | [a], _ => rfl
            | a :: b :: q, h1 => simp at h1; omega
          rw [HT2.out, tnone (.inr (by rw [nib_esc]; exact hx))]; rfl))
        clear hS RET
        go_wp2
        go_ret2
        exact HE.out
      have hk2I : ¬ (m : Int) < (k : Int) + 2 := by omega
      have hszk : k < (ByteArray.mk s.toArray).size := by simp [ByteArray.size]; omega
      have HGk := Lib.hid (ScI.get_at s k hszk)
      generalize hck : (ByteArray.mk s.toArray)[k]'hszk = a at *
      have hlk : lst s m k = a :: lst s m (k + 1) := lst_cons (by omega) HGk.out
      obtain ⟨l, hl⟩ : ∃ l, k + 1 = l := ⟨_, rfl⟩
      have hlI2 : (k : Int) + 1 = (l : Int) := by omega
      rw [hl] at hlk
      have hszl : l < (ByteArray.mk s.toArray).size := by simp [ByteArray.size]; omega
      have HGl := Lib.hid (ScI.get_at s l hszl)
      generalize hcl : (ByteArray.mk s.toArray)[l]'hszl = b at *
      have hll : lst s m l = b :: lst s m (l + 1) := lst_cons (by omega) HGl.out
      obtain ⟨q, hq⟩ : ∃ q, l + 1 = q := ⟨_, rfl⟩
      rw [hq] at hll
      have hqI : (k : Int) + 2 = (q : Int) := by omega
      rw [hlk, hll] at HT2
      clear hlk hll
      have HXA := Lib.hid fun w => hex_any a w
      have HXB := Lib.hid fun w => hex_any b w
      cases hxa : hexI a with
      | none =>
        have HE := Lib.hid (RET.out (by rw [HT2.out, tnone (.inr (by rw [nib_esc, esc_x]; simp only [hxa]))]; rfl))
        rw [hexV_none hxa] at HXA
        clear hS RET hxa
        go_wp2_with fail
        refine (HXA.out _).mono ?_
        rintro e w2 ⟨rfl, rfl⟩
        go_wp2
        go_ret2
        exact HE.out
      | some x =>
        rw [hexV_some hxa] at HXA
        have hx16 := hexI_lt hxa
        cases hxb : hexI b with
        | none =>
          have HE := Lib.hid (RET.out (by rw [HT2.out, tnone (.inr (by rw [nib_esc, esc_x]; simp only [hxa, hxb]))]; rfl))
          rw [hexV_none hxb] at HXB
          clear hS RET hxa hxb
          go_wp2_with fail
          refine (HXA.out _).mono ?_
          rintro e w2 ⟨rfl, rfl⟩
          go_wp2_with fail
          refine (HXB.out _).mono ?_
          rintro e w2 ⟨rfl, rfl⟩
          go_wp2
          go_ret2
          exact HE.out
        | some y =>
          rw [hexV_some hxb] at HXB
          have hy16 := hexI_lt hxb
          obtain ⟨v, hv⟩ : ∃ v, UInt8.ofNat (16 * x + y) = v := ⟨_, rfl⟩
          have hvn : v.toNat = 16 * x + y := by rw [← hv]; simp; omega
          have hvI : (16 : Int) * (x : Int) + (y : Int) = (v.toNat : Int) := by omega
          have HN : Hid (textI (lst s m 1) = (textF f' (lst s m q)).map ((acc ++ [v]) ++ ·)) := Lib.hid (by
            rw [HT2.out, tstep (d := v) (q := lst s m q) (by decide) (by rw [nib_esc, esc_x]; simp only [hxa, hxb]; rw [hv])])
          have hlv := v.toNat_lt
          have HVN := Lib.hid hvn
          clear RET hxa hxb hv hvn
          go_wp2_with fail
          refine (HXA.out _).mono ?_
          rintro e w2 ⟨rfl, rfl⟩
          go_wp2_with fail
          refine (HXB.out _).mono ?_
          rintro e w2 ⟨rfl, rfl⟩
          go_upto_region 28 with fail
          have hd := hS.drew
          clear hS
          refine Go.Proofs.YtcjlbimmplejjaaGreatDoor.Held.wp_region_held (fun _ => True) [] tr28 (by kernel_rfl) (by kernel_rfl) trivial ?_
          generalize hw9 : World.drew _ = w4 at *
          clear hw9
          unfold tr28
          refine tr_plain (.string ⟨s.toArray⟩) rfl ?_ (by simp only [nthOp, Act.put, List.setIfInBounds_toArray, List.set_cons_succ, List.set_cons_zero]; rfl) ?_
          · exact fun _ => rfl
          refine tr_plain (.int .i64 (k : Nat)) rfl ?_ (by simp only [nthOp, Act.put, List.setIfInBounds_toArray, List.set_cons_succ, List.set_cons_zero]; rfl) ?_
          · exact fun _ => rfl
          refine tr_plain (.int .u8 a.toNat) rfl ?_ (by simp only [nthOp, Act.put, List.setIfInBounds_toArray, List.set_cons_succ, List.set_cons_zero]; rfl) ?_
          · (intro w'; simp only [nthOp]; go_simp <;> first | done | (rw [IntKind.wrap_i64]; omega) | skip)
          refine tr_plain (.string ⟨s.toArray⟩) rfl ?_ (by simp only [nthOp, Act.put, List.setIfInBounds_toArray, List.set_cons_succ, List.set_cons_zero]; rfl) ?_
          · exact fun _ => rfl
          refine tr_plain (.int .i64 (k : Nat)) rfl ?_ (by simp only [nthOp, Act.put, List.setIfInBounds_toArray, List.set_cons_succ, List.set_cons_zero]; rfl) ?_
          · exact fun _ => rfl
          refine tr_plain (.int .i64 (l : Nat)) rfl ?_ (by simp only [nthOp, Act.put, List.setIfInBounds_toArray, List.set_cons_succ, List.set_cons_zero]; rfl) ?_
          · (intro w'; simp only [nthOp]; go_simp <;> first | done | (rw [IntKind.wrap_i64]; omega) | skip)
          refine tr_plain (.int .u8 b.toNat) rfl ?_ (by simp only [nthOp, Act.put, List.setIfInBounds_toArray, List.set_cons_succ, List.set_cons_zero]; rfl) ?_
          · (intro w'; simp only [nthOp]; go_simp <;> first | done | (rw [IntKind.wrap_i64]; omega) | skip)
          refine tr_one ?_
          simp only [nthOp]
          go_wp2_with fail
          refine (HXA.out _).mono ?_
          rintro e w5 ⟨rfl, rfl⟩
          go_wp2_with fail
          simp only [Reg.Next]
          first | refine ⟨fun _ => trivial, ?_⟩ | skip
          refine tr_plain (.int .i64 (16 * (x : Int))) rfl ?_ (by simp only [nthOp, Act.put, List.setIfInBounds_toArray, List.set_cons_succ, List.set_cons_zero]; rfl) ?_
          · (intro w'; simp only [nthOp]; go_simp <;> first | done | (rw [IntKind.wrap_i64]; omega) | skip)
          refine tr_one ?_
          simp only [nthOp]
          go_wp2_with fail
          refine (HXB.out _).mono ?_
          rintro e w5 ⟨rfl, rfl⟩
          go_wp2_with fail
          simp only [Reg.Next]
          first | refine ⟨fun _ => trivial, ?_⟩ | skip
          refine tr_plain (.int .i64 (v.toNat : Int)) rfl ?_ (by simp only [nthOp, Act.put, List.setIfInBounds_toArray, List.set_cons_succ, List.set_cons_zero]; rfl) ?_
          · (intro w'; simp only [nthOp]; go_simp <;> first | done | (rw [IntKind.wrap_i64]; omega) | skip)
          refine tr_plain (.int .u8 (v.toNat : Int)) rfl ?_ (by simp only [nthOp, Act.put, List.setIfInBounds_toArray, List.set_cons_succ, List.set_cons_zero]; rfl) ?_
          · (intro w'; simp only [nthOp]; go_simp <;> first | done | (rw [IntKind.wrap_u8]; omega) | skip)
          refine tr_plain (.int .u8 (v.toNat : Int)) rfl ?_ (by simp only [nthOp, Act.put, List.setIfInBounds_toArray, List.set_cons_succ, List.set_cons_zero]; rfl) ?_
          · exact fun _ => rfl
          refine tr_done ?_
          have ha1 := run_str_add (P := Tryz.prog) acc [v] (by simp; omega)
          have hcv := run_string_one (P := Tryz.prog) 67 9 5 Tryz.underlying67 Tryz.underlying5 Tryz.underlying9 w5 w5.heap.size rfl (v.toNat : Int) v.toNat rfl hlv (0, 0)
          rw [show UInt8.ofNat v.toNat = v from by simp] at hcv
          have hA := hd.alloc (.cells #[.int .u8 v.toNat] 5 (0, 0))
          have H2 := Lib.hid hA.right
          clear hA hd
          go_wp2_with fail
          exact ⟨⟨q, f', acc ++ [v], by omega, by omega, by omega, by rw [List.length_append, List.length_singleton]; omega, rfl, rfl, HN, H2.out⟩, by simp [intOf]; omega⟩
    · obtain rfl : i = m := by omega
      have HF : Hid (textR s = if acc.length ≤ 4096 then some acc else none) := Lib.hid (by
        rw [HR.out, HT.out, lst_end (Nat.le_refl _)]
        cases f <;> simp [textF])
      have HS := Lib.hid hS
      clear hS RET
      by_cases h4 : acc.length ≤ 4096
      · have h4I : ((acc.length : Int) ≤ 4096) := by omega
        have hd4 : decide ((acc.length : Int) ≤ 4096) = true := decide_eq_true h4I
        go_wp2
        go_ret2
        refine ⟨acc, true, ?_, by rw [HF.out, if_pos h4]; rfl, by omega, HS.out⟩
        rw [← hd4]; rfl
      · have h4I : ¬ ((acc.length : Int) ≤ 4096) := by omega
        have hd4 : decide ((acc.length : Int) ≤ 4096) = false := decide_eq_false h4I
        go_wp2
        go_ret2
        refine ⟨acc, false, ?_, by rw [HF.out, if_neg h4]; rfl, by omega, HS.out⟩
        rw [← hd4]; rfl
end Go.Proofs.YtcjlbimmplejjaaGreatDoor.ScPh
namespace Go.Proofs.YtcjlbimmplejjaaGreatDoor.ScRt
open Go Go.RowKit Go.Proofs Go.Proofs.YtcjlbimmplejjaaGreatDoor.Sep Go.Proofs.YtcjlbimmplejjaaGreatDoor.Reg Go.Proofs.YtcjlbimmplejjaaGreatDoor.Fork Go.Proofs.YtcjlbimmplejjaaGreatDoor.Held Go.Proofs.YtcjlbimmplejjaaGreatDoor.Frame Go.Proofs.YtcjlbimmplejjaaGreatDoor.Strs Go.Proofs.YtcjlbimmplejjaaGreatDoor.WdP Go.Proofs.YtcjlbimmplejjaaGreatDoor.WdT Go.Proofs.YtcjlbimmplejjaaGreatDoor.ScP Go.Proofs.YtcjlbimmplejjaaGreatDoor.ScQ Go.Proofs.YtcjlbimmplejjaaGreatDoor.ScT Go.Proofs.YtcjlbimmplejjaaGreatDoor.ScB Go.Proofs.YtcjlbimmplejjaaGreatDoor.ScI Go.Proofs.YtcjlbimmplejjaaGreatDoor.ScM Go.Proofs.YtcjlbimmplejjaaGreatDoor.ScA Go.Proofs.YtcjlbimmplejjaaGreatDoor.ScR Go.Proofs.YtcjlbimmplejjaaGreatDoor.ScRp

abbrev PL := List (Sm × Value)
/-- A part's cells. -/
def pE (p : Sm × Value) : List Value := match p.1 with
  | .act x => [.int .u8 (x.k : Nat), .int .i64 x.c, .int .i64 x.n, .string ⟨x.s.toArray⟩, .slice none 0 0, .int .i64 1]
  | .loop n _ _ => [.int .u8 0, .int .i64 0, .int .i64 0, .string ⟨#[]⟩, p.2, .int .i64 (n : Nat)]
theorem pE_len (p : Sm × Value) : (pE p).length = 6 := by unfold pE; split <;> rfl
def OkS : Sm → Prop
  | .act x => 1 ≤ x.k
  | .loop n _ _ => n ≤ 1000
def sms (pl : PL) : List Sm := pl.map (·.1)
/-- Parts that lie at v, with those within them. -/
inductive RT (w : World) : Value → PL → Prop
  | mk {v : Value} {pl : PL} (subs : Nat → PL) (hsl : Sl w 6 v pl.length (pl.flatMap pE)) (hok : ∀ p ∈ pl, OkS p.1) (hsub : ∀ i n m A u, pl[i]? = some (.loop n m A, u) → RT w u (subs i))
    (hsum : ∀ i n m A u, pl[i]? = some (.loop n m A, u) → manyS (sms (subs i)) = m ∧ actsS (sms (subs i)) = A) : RT w v pl
theorem acts_len : ∀ (l : List Sm) (k : Nat), (∀ n m A, .loop n m A ∈ l → m ≤ 4096 → A.length = m) → k ≤ 4096 → l.foldl manyA k ≤ 4096 → k + (actsS l).length = l.foldl manyA k
  | [], k, _, _, _ => by simp [actsS]
  | x :: l, k, h, hk, hm => by
    simp only [List.foldl_cons] at hm ⊢
    have hmono : ∀ (l : List Sm) (a : Nat), a ≤ 4097 → a ≤ l.foldl manyA a := by
      intro l
      induction l with
      | nil => intro a _; exact Nat.le_refl _
      | cons y l ih =>
        intro a ha
        simp only [List.foldl_cons]
        have h1 : a ≤ manyA a y := by cases y <;> simp only [manyA] <;> omega
        have h2 : manyA a y ≤ 4097 := by cases y <;> simp only [manyA] <;> omega
        exact Nat.le_trans h1 (ih _ h2)
    have hle : manyA k x ≤ 4097 := by cases x <;> simp only [manyA] <;> omega
    have h1 : manyA k x ≤ 4096 := Nat.le_trans (hmono l _ hle) hm
    have ih := acts_len l (manyA k x) (fun n m A hA => h n m A (by simp [hA])) h1 hm
    have hx : manyA k x = k + (actsA x).length := by
      cases x with
      | act x => simp only [manyA, actsA, List.length_singleton] at h1 ⊢; omega
      | loop n m A =>
        simp only [manyA, actsA] at h1 ⊢
        by_cases h0 : n = 0 ∨ m = 0
        · rw [if_pos h0]
          have : m * n = 0 := by rcases h0 with h0 | h0 <;> simp [h0]
          rw [this]; simp; omega
        · rw [if_neg h0, reps_len]
          have hmn : m ≤ m * n := Nat.le_mul_of_pos_right _ (by omega)
          have hm2 : k + m * n ≤ 4096 := by omega
          rw [h n m A (by simp) (by omega), Nat.mul_comm n m, Nat.min_eq_left (by omega)]
    rw [hx] at ih ⊢
    show k + (actsA x ++ actsS l).length = _
    rw [List.length_append, ← ih]; omega
theorem RT.len {w : World} {v : Value} {pl : PL} (h : RT w v pl) : manyS (sms pl) ≤ 4096 → (actsS (sms pl)).length = manyS (sms pl) := by
  induction h with
  | @mk v pl subs hsl hok hsub hsum ih =>
    intro hm
    have := acts_len (sms pl) 0 (fun n m A hA hm => by
      obtain ⟨p, hp, hq⟩ := List.mem_map.1 hA
      obtain ⟨x, u⟩ := p
      simp only at hq
      subst hq
      obtain ⟨i, hi⟩ := List.getElem?_of_mem hp
      have h1 := ih i n m A u hi
      have h2 := hsum i n m A u hi
      rw [h2.1, h2.2] at h1
      exact h1 hm) (by omega) hm
    simp only [Nat.zero_add] at this
    exact this
theorem many_pre (l : List Sm) (i : Nat) : manyS (l.take i) ≤ manyS l := by
  have hmono : ∀ (l : List Sm) (a : Nat), a ≤ 4097 → a ≤ l.foldl manyA a := by
    intro l
    induction l with
    | nil => intro a _; exact Nat.le_refl _
    | cons y l ih =>
      intro a ha
      simp only [List.foldl_cons]
      have h1 : a ≤ manyA a y := by cases y <;> simp only [manyA] <;> omega
      have h2 : manyA a y ≤ 4097 := by cases y <;> simp only [manyA] <;> omega
      exact Nat.le_trans h1 (ih _ h2)
  have e : manyS l = (l.drop i).foldl manyA (manyS (l.take i)) := by
    unfold manyS
    rw [← List.foldl_append, List.take_append_drop]
  rw [e]
  exact hmono _ _ (many_le _)
theorem many_at {pl : PL} {i : Nat} {p : Sm × Value} (h : pl[i]? = some p) : manyS (sms (pl.take (i + 1))) = manyA (manyS (sms (pl.take i))) p.1 := by
  rw [List.take_add_one, h]
  simp only [sms, Option.toList_some, List.map_append, List.map_cons, List.map_nil]
  exact many_snoc _ _
theorem acts_at {pl : PL} {i : Nat} {p : Sm × Value} (h : pl[i]? = some p) : actsS (sms (pl.take (i + 1))) = actsS (sms (pl.take i)) ++ actsA p.1 := by
  rw [List.take_add_one, h]
  simp only [sms, Option.toList_some, List.map_append, List.map_cons, List.map_nil]
  exact acts_snoc _ _
theorem many_all {pl : PL} {i : Nat} (h : pl.length ≤ i) : pl.take i = pl := List.take_of_length_le h
/-- A part's cells, where it lies. -/
theorem part_cells {W : World} {a : Option Addr} {n c : Nat} {pl : PL} (h : Sl W 6 (.slice a n c) n (pl.flatMap pE)) {i : Nat} {p : Sm × Value} (hp : pl[i]? = some p) : ∃ ab ao, a = some ⟨ab, ao, none⟩ ∧ ∀ w A, St W w A → ∀ j u, j < 6 → (pE p)[j]? = some u → w.cell? ⟨ab, ao + i * 6 + j, none⟩ = some u := by
  have hne : (pl.flatMap pE) ≠ [] := by
    intro h0
    have hm : p ∈ pl := List.mem_of_getElem? hp
    have := List.flatMap_eq_nil_iff.1 h0 p hm
    have h6 := pE_len p
    rw [this] at h6; simp at h6
  have hlen : 0 < (pl.flatMap pE).length := List.length_pos_iff.2 hne
  obtain ⟨ab, ao, rfl, -⟩ := sl_addr h hlen
  refine ⟨ab, ao, rfl, fun w A hS j u hj hu => ?_⟩
  obtain ⟨_, _, he, hc⟩ := sl_addr (sl_past h hS) hlen
  cases he
  have hg := flatMap_get (E := pE) (size := 6) pE_len pl i p hp j hj
  have := hc (i * 6 + j) u (hg.trans hu)
  rwa [← Nat.add_assoc] at this
set_option maxRecDepth 100000 in
set_option maxHeartbeats 16000000 in
theorem Many_any {W : World} {v : Value} {pl : PL} (hRT : RT W v pl) : ∀ (w : World) (R : Asn), St W w R → Calls Tryz.prog 27 #[v] w fun e w' => e = .returned (.int .i64 (manyS (sms pl) : Nat)) ∧ St W w' R := by
  induction hRT with
  | @mk v pl subs hsl hok hsub hsum ih =>
    intro w R h
    obtain ⟨a, n, c, rfl, hnl⟩ : ∃ a n c, v = .slice a n c ∧ pl.length = n := by
      obtain ⟨-, a, c, hv, -⟩ := hsl
      exact ⟨a, _, c, hv, rfl⟩
    rw [hnl] at hsl
    have hcap : n ≤ c ∧ c ≤ 9223372036854775807 := by obtain ⟨_, _, _, hv, h1, h2, _⟩ := hsl; cases hv; exact ⟨h1, by simpa [maxLen] using h2⟩
    have HSL := Lib.hid hsl
    have HOK := Lib.hid hok
    have HIH := Lib.hid ih
    have HSM := Lib.hid hsum
    have HNL := Lib.hid hnl
    clear hsl hok hsub hsum ih hnl
    go_enter Tryz.func27, Tryz.ntmps27
    go_wp2_with fail
    go_loopw [3, 4] (fun nv iv wr => ∃ (i acc : Nat), i ≤ n ∧ iv = .int .i64 i ∧ nv = .int .i64 acc ∧ acc ≤ 4097 ∧ Hid (manyS (sms (pl.take i)) = acc) ∧ St W wr R) (fun _ iv _ => n - (intOf iv).toNat)
    case atStart => exact ⟨0, 0, Nat.zero_le _, rfl, rfl, by omega, Lib.hid rfl, h⟩
    case round =>
      obtain ⟨i, acc, hi, rfl, rfl, hacc, HA, hS⟩ := hrel
      clear h
      by_cases hin : i < n
      · have hinI : (i : Int) < n := by omega
        obtain ⟨q, hq⟩ : ∃ q, pl[i]? = some q := ⟨_, List.getElem?_eq_getElem (by rw [HNL.out]; exact hin)⟩
        obtain ⟨ab, ao, rfl, hcell⟩ := part_cells HSL.out hq
        have HC := Lib.hid hcell
        have hnx := many_at hq
        rw [HA.out] at hnx
        have hokq := HOK.out q (List.mem_of_getElem? hq)
        obtain ⟨sm, u⟩ := q
        simp only at hnx hokq
        have HQ := Lib.hid hq
        clear hcell hq
        cases sm with
        | act x =>
          have c0 := HC.out _ _ hS 0 (.int .u8 (x.k : Nat)) (by omega) rfl
          have c5 := HC.out _ _ hS 5 (.int .i64 1) (by omega) rfl
          rw [Nat.add_zero] at c0
          have hk : ((x.k : Int) == 0) = false := by rw [beq_eq_false_iff_ne]; have : 1 ≤ x.k := hokq; omega
          have hmn : min ((acc : Int) + 1) 4097 = ((min (acc + 1) 4097 : Nat) : Int) := by omega
          obtain ⟨nx, hx⟩ : ∃ z, min (acc + 1) 4097 = z := ⟨_, rfl⟩
          rw [hx] at hmn
          have HN : Hid (manyS (sms (pl.take (i + 1))) = nx) := Lib.hid (by rw [hnx]; exact hx)
          have hnl : nx ≤ 4097 := by omega
          clear hnx hx hokq HC
          go_wp2_with fail
          exact ⟨⟨i + 1, nx, by omega, by go_num, by first | rfl | go_num | (rw [hmn]), hnl, HN, hS⟩, by simp [intOf]; omega⟩
        | loop t m A =>
          have c0 := HC.out _ _ hS 0 (.int .u8 0) (by omega) rfl
          have c4 := HC.out _ _ hS 4 u (by omega) rfl
          rw [Nat.add_zero] at c0
          have ht : t ≤ 1000 := hokq
          have hsm := HSM.out i t m A u HQ.out
          have hml : m ≤ 4097 := by rw [← hsm.1]; exact many_le _
          have HMa := Lib.hid (HIH.out i t m A u HQ.out _ _ hS)
          rw [hsm.1] at HMa
          obtain ⟨pr, hpr⟩ : ∃ z, m * t = z := ⟨_, rfl⟩
          have hprb : pr ≤ 4097 * 1000 := by rw [← hpr]; exact Nat.mul_le_mul hml ht
          have hprI : (m : Int) * (t : Int) = (pr : Int) := by rw [← hpr]; simp
          have hmn : min ((acc : Int) + (pr : Int)) 4097 = ((min (acc + pr) 4097 : Nat) : Int) := by omega
          obtain ⟨nx, hx⟩ : ∃ z, min (acc + pr) 4097 = z := ⟨_, rfl⟩
          rw [hx] at hmn
          have HN : Hid (manyS (sms (pl.take (i + 1))) = nx) := Lib.hid (by rw [hnx]; simp only [manyA]; rw [hpr]; exact hx)
          have hnl : nx ≤ 4097 := by omega
          clear hnx hx hokq hS hsm hpr
          go_wp2_with fail
          refine HMa.out.mono ?_
          rintro e w3 ⟨rfl, hS⟩
          have c5 := HC.out _ _ hS 5 (.int .i64 (t : Nat)) (by omega) rfl
          clear c0 c4 HMa HC
          go_wp2_with fail
          exact ⟨⟨i + 1, nx, by omega, by go_num, by first | rfl | go_num | (rw [hmn]), hnl, HN, hS⟩, by simp [intOf]; omega⟩
      · obtain rfl : n = i := by omega
        have HF : Hid (manyS (sms pl) = acc) := Lib.hid (by rw [← HA.out, many_all (by rw [HNL.out]; exact Nat.le_refl _)])
        have HS := Lib.hid hS
        clear hS
        go_wp2
        go_ret
        exact ⟨by rw [HF.out]; rfl, HS.out⟩
theorem len_pre {W : World} {v : Value} {pl : PL} (h : RT W v pl) (hm : manyS (sms pl) ≤ 4096) (i : Nat) : (actsS (sms (pl.take i))).length ≤ 4096 := by
  have h1 := h.len hm
  have h2 : actsS (sms pl) = actsS (sms (pl.take i)) ++ actsS (sms (pl.drop i)) := by
    have : sms pl = sms (pl.take i) ++ sms (pl.drop i) := by simp only [sms, ← List.map_append, List.take_append_drop]
    rw [this]; simp [actsS]
  rw [h2, List.length_append] at h1
  omega
/-- A call that hands back a new slice of acts. -/
def LPst (W : World) (l : List Ac) (R : Asn) (e : Ending) (w' : World) : Prop := ∃ a c, e = .returned (.slice a l.length c) ∧ St W w' (star (Row 34 4 (.slice a l.length c) l.length (actsV l)) R)
theorem aE_one (x : Ac) : ∀ u ∈ [Value.int .u8 (x.k : Nat), .int .i64 x.c, .int .i64 x.n, .string ⟨x.s.toArray⟩], u.oneCell' = true := by
  intro u hu
  simp only [List.mem_cons, List.not_mem_nil, or_false] at hu
  rcases hu with rfl | rfl | rfl | rfl <;> rfl
set_option maxRecDepth 100000 in
set_option maxHeartbeats 16000000 in
theorem Acts_any {W : World} {v : Value} {pl : PL} (hRT : RT W v pl) : manyS (sms pl) ≤ 4096 → ∀ (w : World) (R : Asn), St W w R → Calls Tryz.prog 28 #[v] w (LPst W (actsS (sms pl)) R) := by
  induction hRT with
  | @mk v pl subs hsl hok hsub hsum ih =>
    intro hmany w R h
    obtain ⟨i0, hi0, hz0, hz1, hz2⟩ := info_parts infoA
    have hself : RT W v pl := .mk subs hsl hok hsub hsum
    obtain ⟨a, n, c, rfl, hnl⟩ : ∃ a n c, v = .slice a n c ∧ pl.length = n := by
      obtain ⟨-, a, c, hv, -⟩ := hsl
      exact ⟨a, _, c, hv, rfl⟩
    rw [hnl] at hsl
    have hcap : n ≤ c ∧ c ≤ 9223372036854775807 := by obtain ⟨_, _, _, hv, h1, h2, _⟩ := hsl; cases hv; exact ⟨h1, by simpa [maxLen] using h2⟩
    have HSL := Lib.hid hsl
    have HOK := Lib.hid hok
    have HIH := Lib.hid ih
    have HSB := Lib.hid hsub
    have HSM := Lib.hid hsum
    have HNL := Lib.hid hnl
    have HMN := Lib.hid hmany
    have HPR := Lib.hid (len_pre hself hmany)
    clear hsl hok hsub hsum ih hnl hself hmany
    go_enter Tryz.func28, Tryz.ntmps28
    go_wp2_with fail
    go_loopw [3, 4] (fun ov iv wr => ∃ (i : Nat) (acc : List Ac) (va : Option Addr) (vc : Nat), i ≤ n ∧ iv = .int .i64 i ∧ ov = .slice va acc.length vc ∧ acc.length ≤ 4096 ∧ Hid (actsS (sms (pl.take i)) = acc) ∧ St W wr (star (Row 34 4 (.slice va acc.length vc) acc.length (actsV acc)) R)) (fun _ iv _ => n - (intOf iv).toNat)
    case atStart => exact ⟨0, [], none, 0, Nat.zero_le _, rfl, rfl, by simp, Lib.hid rfl, h.nilRow⟩
    case round =>
      obtain ⟨i, acc, va, vc, hi, rfl, rfl, hacc, HA, hS⟩ := hrel
      clear h
      by_cases hin : i < n
      · have hinI : (i : Int) < n := by omega
        obtain ⟨q, hq⟩ : ∃ q, pl[i]? = some q := ⟨_, List.getElem?_eq_getElem (by rw [HNL.out]; exact hin)⟩
        obtain ⟨ab, ao, rfl, hcell⟩ := part_cells HSL.out hq
        have HC := Lib.hid hcell
        have hnx := acts_at hq
        have hmx := many_at hq
        have hml2 := many_pre (sms pl) (i + 1)
        have hpr1 := HPR.out (i + 1)
        rw [HA.out] at hnx
        have hokq := HOK.out q (List.mem_of_getElem? hq)
        have hmp : manyS (sms (pl.take (i + 1))) ≤ 4096 := by
          have e : sms (pl.take (i + 1)) = (sms pl).take (i + 1) := by simp [sms, List.map_take]
          rw [e]; exact Nat.le_trans hml2 HMN.out
        obtain ⟨sm, u⟩ := q
        simp only at hnx hokq hmx
        have HQ := Lib.hid hq
        clear hcell hq hml2
        cases sm with
        | act x =>
          have c0 := HC.out _ _ hS 0 (.int .u8 (x.k : Nat)) (by omega) rfl
          have c1 := HC.out _ _ hS 1 (.int .i64 x.c) (by omega) rfl
          have c2 := HC.out _ _ hS 2 (.int .i64 x.n) (by omega) rfl
          have c3 := HC.out _ _ hS 3 (.string ⟨x.s.toArray⟩) (by omega) rfl
          rw [Nat.add_zero] at c0
          have hk : ((x.k : Int) != 0) = true := by rw [bne_iff_ne]; have : 1 ≤ x.k := hokq; omega
          have HN : Hid (actsS (sms (pl.take (i + 1))) = acc ++ [x]) := Lib.hid hnx
          have hl1 : (acc ++ [x]).length ≤ 4096 := by rw [← HN.out]; exact hpr1
          clear hnx hokq HC hmx hmp hpr1
          go_wp2_with (at_builtin; refine wpList_append1 rfl (.tmp 20) (.tmp 26) 23 rfl 34 i0 _ 4 40 Tryz.underlying23 hi0 hz0 hz1 hz2 rfl _ acc.length (actsV acc) rfl hS _ rfl rfl (aE_one x) (by unfold maxLen; omega) (by omega) ?_)
          intro a' c' w' hS2
          have hl : (acc ++ [x]).length = acc.length + 1 := by simp
          have hS3 : St W w' (star (Row 34 4 (.slice (some ⟨a', 0, none⟩) (acc.length + 1) c') (acc.length + 1) (actsV (acc ++ [x]))) R) := by rw [actsV_append]; exact hS2
          rw [← hl] at hS3 ⊢
          clear hS hS2 hl c0 c1 c2 c3 hk
          go_wp2_with fail
          exact ⟨⟨i + 1, acc ++ [x], some ⟨a', 0, none⟩, c', by omega, by go_num, rfl, hl1, HN, hS3⟩, by simp [intOf]; omega⟩
        | loop t m A =>
          have c0 := HC.out _ _ hS 0 (.int .u8 0) (by omega) rfl
          have c4 := HC.out _ _ hS 4 u (by omega) rfl
          have c5 := HC.out _ _ hS 5 (.int .i64 (t : Nat)) (by omega) rfl
          rw [Nat.add_zero] at c0
          have ht : t ≤ 1000 := hokq
          obtain ⟨hs1, hs2⟩ := HSM.out i t m A u HQ.out
          by_cases ht0 : t = 0
          · subst ht0
            have HN : Hid (actsS (sms (pl.take (i + 1))) = acc) := Lib.hid (by rw [hnx]; simp [actsA])
            clear hnx hmx hmp hpr1 hokq HC hs1 hs2 ht
            go_wp2_with fail
            exact ⟨⟨i + 1, acc, va, vc, by omega, by go_num, rfl, hacc, HN, hS⟩, by simp [intOf]; omega⟩
          have ht0I : ((t : Int) == 0) = false := by rw [beq_eq_false_iff_ne]; omega
          have HMa := Lib.hid (Many_any (HSB.out i t m A u HQ.out) _ _ hS)
          rw [hs1] at HMa
          by_cases hm0 : m = 0
          · subst hm0
            have HN : Hid (actsS (sms (pl.take (i + 1))) = acc) := Lib.hid (by rw [hnx]; simp [actsA])
            clear hnx hmx hmp hpr1 hokq HC hs1 hs2 ht hS
            go_wp2_with fail
            refine HMa.out.mono ?_
            rintro e w3 ⟨rfl, hS⟩
            clear c0 c4 c5 HMa
            go_wp2_with fail
            exact ⟨⟨i + 1, acc, va, vc, by omega, by go_num, rfl, hacc, HN, hS⟩, by simp [intOf]; omega⟩
          have hm0I : ((m : Int) == 0) = false := by rw [beq_eq_false_iff_ne]; omega
          have hm4 : m ≤ 4096 := by
            rw [hmx] at hmp
            simp only [manyA] at hmp
            have : m ≤ m * t := Nat.le_mul_of_pos_right _ (by omega)
            omega
          have HN : Hid (actsS (sms (pl.take (i + 1))) = acc ++ reps t A) := Lib.hid (by rw [hnx]; simp only [actsA]; rw [if_neg (by omega)])
          have hlt : (acc ++ reps t A).length ≤ 4096 := by rw [← HN.out]; exact hpr1
          have HIA := Lib.hid (HIH.out i t m A u HQ.out (by rw [hs1]; exact hm4))
          rw [hs2] at HIA
          clear hnx hmx hmp hpr1 hokq hs1 hs2 hS
          go_wp2_with fail
          refine HMa.out.mono ?_
          rintro e w3 ⟨rfl, hS⟩
          clear c0 c4 c5 HMa
          have c4 := HC.out _ _ hS 4 u (by omega) rfl
          have HIB := Lib.hid (HIA.out _ _ hS)
          clear hS HIA
          go_wp2_with fail
          refine HIB.out.mono ?_
          rintro e w4 ⟨ia, ic, rfl, hS⟩
          have hS0 := hS.swap
          clear c4 HIB hS
          go_wp2_with fail
          go_loopw [3, 6] (fun ov kv wr => ∃ (k : Nat) (ac2 : List Ac) (va : Option Addr) (vc : Nat), k ≤ t ∧ kv = .int .i64 k ∧ ov = .slice va ac2.length vc ∧ Hid (ac2 = acc ++ reps k A) ∧ St W wr (star (Row 34 4 (.slice va ac2.length vc) ac2.length (actsV ac2)) (star (Row 34 4 (.slice ia A.length ic) A.length (actsV A)) R))) (fun _ kv _ => t - (intOf kv).toNat)
          case atStart => exact ⟨0, acc, va, vc, Nat.zero_le _, rfl, rfl, Lib.hid (by rw [reps_zero, List.append_nil]), hS0⟩
          case round =>
            clear hS0
            obtain ⟨k, ac2, va2, vc2, hk, rfl, rfl, HA2, hS⟩ := hrel
            have c5 := HC.out _ _ hS 5 (.int .i64 (t : Nat)) (by omega) rfl
            by_cases hkt : k < t
            · have hktI : (k : Int) < (t : Int) := by omega
              have hsl := hS.right.rowSl
              have hb2 : ac2.length + A.length ≤ 4096 := by
                have h1 : acc.length + t * A.length ≤ 4096 := by rw [List.length_append, reps_len] at hlt; exact hlt
                have h2 : ac2.length = acc.length + k * A.length := by rw [HA2.out, List.length_append, reps_len]
                have h3 : (k + 1) * A.length ≤ t * A.length := Nat.mul_le_mul_right _ hkt
                rw [Nat.succ_mul] at h3
                omega
              go_wp2_with (at_builtin; refine wpList_append_Sl rfl (.tmp 58) (.tmp 59) 23 rfl 34 i0 _ 4 40 Tryz.underlying23 hi0 hz0 hz1 hz2 rfl _ ac2.length (actsV ac2) rfl hS _ A.length (actsV A) rfl hsl (actsV_one _) (by unfold maxLen; omega) (by omega) ?_)
              intro v6 w6 h6 _
              obtain ⟨a6, c6, rfl⟩ : ∃ a c, v6 = .slice a (ac2.length + A.length) c := by obtain ⟨_, a, c, hv, _⟩ := h6.rowSl; exact ⟨a, c, hv⟩
              have HA3 : Hid (ac2 ++ A = acc ++ reps (k + 1) A) := Lib.hid (by rw [HA2.out, ScM.reps_succ', List.append_assoc])
              have hl : (ac2 ++ A).length = ac2.length + A.length := List.length_append
              have hS3 : St W w6 (star (Row 34 4 (.slice a6 (ac2.length + A.length) c6) (ac2.length + A.length) (actsV (ac2 ++ A))) (star (Row 34 4 (.slice ia A.length ic) A.length (actsV A)) R)) := by rw [actsV_append]; exact h6
              rw [← hl] at hS3 ⊢
              clear hS h6 hsl hl c5
              go_wp2_with fail
              exact ⟨⟨k + 1, ac2 ++ A, a6, c6, by omega, by go_num, rfl, HA3, hS3⟩, by simp [intOf]; omega⟩
            · obtain rfl : t = k := by omega
              have hlf : ac2.length ≤ 4096 := by rw [HA2.out]; exact hlt
              have HN2 : Hid (actsS (sms (pl.take (i + 1))) = ac2) := Lib.hid (by rw [HN.out, HA2.out])
              have hS3 := hS.swap.right
              clear hS
              go_wp2_with fail
              exact ⟨⟨i + 1, ac2, va2, vc2, by omega, by go_num, rfl, hlf, HN2, hS3⟩, by simp [intOf]; omega⟩
      · obtain rfl : n = i := by omega
        have HF : Hid (actsS (sms pl) = acc) := Lib.hid (by rw [← HA.out, many_all (by rw [HNL.out]; exact Nat.le_refl _)])
        have HS := Lib.hid hS
        clear hS
        go_wp2
        go_ret
        rw [HF.out]
        exact ⟨va, vc, rfl, HS.out⟩
end Go.Proofs.YtcjlbimmplejjaaGreatDoor.ScRt
