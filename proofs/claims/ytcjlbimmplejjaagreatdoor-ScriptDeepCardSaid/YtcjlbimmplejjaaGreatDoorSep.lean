/-
  A small separation logic over worlds: what a call owns in new memory, beside a frame that stays as it was. No program is named here.
-/
import Derived.WalkKit
import Derived.Lib.Hide
import Derived.Deep.Draws
import Derived.Laws.BytesArg
import Derived.Lib.AppendStr
namespace Go.Proofs.YtcjlbimmplejjaaGreatDoor.Sep
open Go Go.RowKit

/-- A piece of memory: some blocks, with what they hold. -/
abbrev PH := Nat → Option Obj
def Asn := PH → Prop
def PH.disj (h k : PH) : Prop := ∀ b, h b = none ∨ k b = none
def PH.uni (h k : PH) : PH := fun b => match h b with | some o => some o | none => k b
def emp : Asn := fun h => h = fun _ => none
def pt (b : Nat) (o : Obj) : Asn := fun h => h = fun k => if k = b then some o else none
def star (A B : Asn) : Asn := fun h => ∃ h1 h2, PH.disj h1 h2 ∧ h = PH.uni h1 h2 ∧ A h1 ∧ B h2
def ex {α : Type} (A : α → Asn) : Asn := fun h => ∃ x, A x h
def pu (p : Prop) : Asn := fun h => p ∧ emp h

theorem PH.disj_comm {h k : PH} (d : PH.disj h k) : PH.disj k h := fun b => (d b).symm
theorem PH.uni_comm {h k : PH} (d : PH.disj h k) : PH.uni h k = PH.uni k h := by
  funext b
  have := d b
  unfold PH.uni
  rcases this with e | e <;> simp only [e] <;> (split <;> simp_all)

theorem star_comm (A B : Asn) : star A B = star B A := by
  have one : ∀ A B : Asn, ∀ h, star A B h → star B A h := by
    rintro A B h ⟨h1, h2, d, rfl, a, b⟩
    exact ⟨h2, h1, PH.disj_comm d, PH.uni_comm d, b, a⟩
  funext h
  exact propext ⟨one A B h, one B A h⟩

theorem PH.uni_none {h k : PH} {b : Nat} : PH.uni h k b = none ↔ h b = none ∧ k b = none := by
  unfold PH.uni; split <;> simp_all

theorem PH.uni_assoc (h k l : PH) : PH.uni (PH.uni h k) l = PH.uni h (PH.uni k l) := by
  funext b; unfold PH.uni; cases h b <;> simp

theorem star_assoc (A B C : Asn) : star (star A B) C = star A (star B C) := by
  funext h
  apply propext
  constructor
  · rintro ⟨x, h3, d, rfl, ⟨h1, h2, d', rfl, a, b⟩, c⟩
    refine ⟨h1, PH.uni h2 h3, ?_, PH.uni_assoc _ _ _, a, h2, h3, ?_, rfl, b, c⟩
    · intro k
      rcases d' k with e | e
      · exact .inl e
      · rcases d k with f | f
        · exact .inl (PH.uni_none.1 f).1
        · exact .inr (PH.uni_none.2 ⟨e, f⟩)
    · intro k
      rcases d k with f | f
      · exact .inl (PH.uni_none.1 f).2
      · exact .inr f
  · rintro ⟨h1, x, d, rfl, a, ⟨h2, h3, d', rfl, b, c⟩⟩
    refine ⟨PH.uni h1 h2, h3, ?_, (PH.uni_assoc _ _ _).symm, ⟨h1, h2, ?_, rfl, a, b⟩, c⟩
    · intro k
      rcases d' k with e | e
      · rcases d k with f | f
        · exact .inl (PH.uni_none.2 ⟨f, e⟩)
        · exact .inr (PH.uni_none.1 f).2
      · exact .inr e
    · intro k
      rcases d k with f | f
      · exact .inl f
      · exact .inr (PH.uni_none.1 f).1

theorem star_emp (A : Asn) : star A emp = A := by
  have e : ∀ h : PH, PH.uni h (fun _ => none) = h := fun h => by
    funext b; unfold PH.uni; cases h b <;> rfl
  funext h
  apply propext
  constructor
  · rintro ⟨h1, h2, _, rfl, a, rfl⟩
    rw [e]; exact a
  · exact fun a => ⟨h, fun _ => none, fun _ => .inr rfl, (e h).symm, a, rfl⟩
theorem emp_star (A : Asn) : star emp A = A := by rw [star_comm, star_emp]
theorem star_left_comm (A B C : Asn) : star A (star B C) = star B (star A C) := by
  rw [← star_assoc, star_comm A B, star_assoc]

instance : Std.Associative star := ⟨star_assoc⟩
instance : Std.Commutative star := ⟨star_comm⟩

theorem ex_star {α : Type} (A : α → Asn) (B : Asn) : star (ex A) B = ex fun x => star (A x) B := by
  funext h
  apply propext
  constructor
  · rintro ⟨h1, h2, d, e, ⟨x, a⟩, b⟩; exact ⟨x, h1, h2, d, e, a, b⟩
  · rintro ⟨x, h1, h2, d, e, a, b⟩; exact ⟨h1, h2, d, e, ⟨x, a⟩, b⟩
theorem pu_star (p : Prop) (B : Asn) (h : PH) : star (pu p) B h ↔ p ∧ B h := by
  constructor
  · rintro ⟨h1, h2, _, rfl, ⟨hp, rfl⟩, b⟩
    exact ⟨hp, b⟩
  · rintro ⟨hp, b⟩
    exact ⟨fun _ => none, h, fun _ => .inl rfl, rfl, ⟨hp, rfl⟩, b⟩

/-- Since the world W (when the law began) nothing that was there has turned; of the new blocks those of A hold what A says. -/
def St (W w : World) (A : Asn) : Prop :=
  Below W.heap.size W w ∧ ∃ h : PH, A h ∧ ∀ b o, h b = some o → W.heap.size ≤ b ∧ w.heap[b]? = some o

theorem St.start (W : World) : St W W emp := ⟨Below.refl _ _, _, rfl, fun _ _ h => by cases h⟩
theorem St.below {W w : World} {A : Asn} (h : St W w A) : Below W.heap.size W w := h.1
theorem St.weak {W w : World} {A B : Asn} (h : St W w A) (e : ∀ h, A h → B h) : St W w B :=
  let ⟨hb, k, a, f⟩ := h; ⟨hb, k, e k a, f⟩
theorem St.eq {W w : World} {A B : Asn} (h : St W w A) (e : A = B) : St W w B := e ▸ h
theorem St.left {W w : World} {A B : Asn} (h : St W w (star A B)) : St W w A := by
  obtain ⟨hb, k, ⟨h1, h2, d, rfl, a, b⟩, f⟩ := h
  exact ⟨hb, h1, a, fun c o ho => f c o (by unfold PH.uni; rw [ho])⟩
theorem St.right {W w : World} {A B : Asn} (h : St W w (star A B)) : St W w B := St.left (h.eq (star_comm A B))
theorem St.forget {W w : World} {A : Asn} (h : St W w A) : St W w emp := ⟨h.1, _, rfl, fun _ _ h => by cases h⟩

theorem St.ex_iff {W w : World} {α : Type} {A : α → Asn} {R : Asn} : St W w (star (ex A) R) ↔ ∃ x, St W w (star (A x) R) := by
  rw [ex_star]
  constructor
  · rintro ⟨hb, k, ⟨x, a⟩, f⟩; exact ⟨x, hb, k, a, f⟩
  · rintro ⟨x, hb, k, a, f⟩; exact ⟨hb, k, ⟨x, a⟩, f⟩
theorem St.pu_iff {W w : World} {p : Prop} {R : Asn} : St W w (star (pu p) R) ↔ p ∧ St W w R := by
  constructor
  · rintro ⟨hb, k, a, f⟩; rw [pu_star] at a; exact ⟨a.1, hb, k, a.2, f⟩
  · rintro ⟨hp, hb, k, a, f⟩; exact ⟨hb, k, (pu_star _ _ _).2 ⟨hp, a⟩, f⟩

section
variable {W w : World} {b : Nat} {o : Obj} {R : Asn}

theorem St.at_ (h : St W w (star (pt b o) R)) : W.heap.size ≤ b ∧ w.heap[b]? = some o := by
  obtain ⟨_, k, a, f⟩ := h.left
  exact f b o (by rw [a]; simp)
theorem St.ge (h : St W w (star (pt b o) R)) : W.heap.size ≤ b := h.at_.1
theorem St.blk (h : St W w (star (pt b o) R)) : w.heap[b]? = some o := h.at_.2
theorem St.lt (h : St W w (star (pt b o) R)) : b < w.heap.size := (Array.getElem?_eq_some_iff.1 h.blk).1
theorem St.ne {b' : Nat} {o' : Obj} (h : St W w (star (pt b o) (star (pt b' o') R))) : b ≠ b' := by
  rintro rfl
  obtain ⟨_, k, ⟨h1, h2, d, rfl, a, ⟨h3, h4, d', rfl, a', _⟩⟩, f⟩ := h
  have := d b
  rw [a, a'] at this
  simp [PH.uni] at this

/-- What the world's other blocks hold may turn, if those of A don't. -/
theorem St.same {w' : World} {A : Asn} (h : St W w A) (hb : Below W.heap.size W w') (e : ∀ k, k < w.heap.size → w'.heap[k]? = w.heap[k]?) : St W w' A := by
  obtain ⟨_, k, a, f⟩ := h
  refine ⟨hb, k, a, fun c o ho => ⟨(f c o ho).1, ?_⟩⟩
  have := (f c o ho).2
  rw [e c (Array.getElem?_eq_some_iff.1 this).1]; exact this

theorem St.drew {A : Asn} (h : St W w A) : St W w.drew A := h.same h.1.drew (fun _ _ => rfl)
theorem St.drewN {A : Asn} (h : St W w A) (n : Nat) : St W (w.drewN n) A := h.same ⟨h.1.os, h.1.tape, h.1.output, h.1.size, h.1.block⟩ (fun _ _ => rfl)

/-- A new block. -/
theorem St.alloc {A : Asn} (h : St W w A) (o : Obj) : St W (w.alloc o) (star (pt w.heap.size o) A) := by
  have hs := h.1.size
  refine ⟨h.1.alloc hs o, ?_⟩
  obtain ⟨_, k, a, f⟩ := h
  have kn : k w.heap.size = none := by
    cases e : k w.heap.size with
    | none => rfl
    | some o' => have := (f _ _ e).2; rw [Array.getElem?_eq_none (Nat.le_refl _)] at this; cases this
  refine ⟨PH.uni (fun c => if c = w.heap.size then some o else none) k, ⟨_, k, fun c => ?_, rfl, rfl, a⟩, fun c o' hc => ?_⟩
  · by_cases hc : c = w.heap.size
    · right; rw [hc]; exact kn
    · left; simp [hc]
  · unfold PH.uni at hc
    by_cases hcw : c = w.heap.size
    · simp only [hcw, if_true, Option.some.injEq] at hc
      subst hc
      exact ⟨by omega, by rw [hcw]; show (w.heap.push o)[w.heap.size]? = _; simp⟩
    · simp only [hcw, if_false] at hc
      have := f c o' hc
      exact ⟨this.1, by rw [Below.heap_alloc w o c (Array.getElem?_eq_some_iff.1 this.2).1]; exact this.2⟩

/-- One owned block takes another object; nothing else turns. -/
theorem St.turn {w' : World} {o' : Obj} (h : St W w (star (pt b o) R)) (ho : w'.os = w.os) (ht : w'.tape = w.tape) (hp : w'.output = w.output) (hz : w.heap.size ≤ w'.heap.size)
    (e : ∀ k, k < w.heap.size → k ≠ b → w'.heap[k]? = w.heap[k]?) (hb : w'.heap[b]? = some o') : St W w' (star (pt b o') R) := by
  have hge := h.ge
  have hsz := h.1.size
  have hbel := h.1
  obtain ⟨_, k, ⟨h1, h2, d, rfl, a, r⟩, f⟩ := h
  refine ⟨⟨ho.trans hbel.os, ht.trans hbel.tape, hp.trans hbel.output, by omega, fun i hi => ?_⟩, PH.uni (fun c => if c = b then some o' else none) h2, ⟨_, h2, fun c => ?_, rfl, rfl, r⟩, fun c q hq => ?_⟩
  · rw [e i (by omega) (by omega)]; exact hbel.block i hi
  · have := d c
    rw [a] at this
    by_cases hc : c = b
    · right; simpa [hc] using this
    · left; simp [hc]
  · unfold PH.uni at hq
    by_cases hc : c = b
    · simp only [hc, if_true, Option.some.injEq] at hq
      subst hq
      exact ⟨by omega, by rw [hc]; exact hb⟩
    · simp only [hc, if_false] at hq
      have := f c q (by unfold PH.uni; rw [a]; simp [hc, hq])
      exact ⟨this.1, by rw [e c (Array.getElem?_eq_some_iff.1 this.2).1 hc]; exact this.2⟩
end

section
variable {W w : World} {b : Nat} {cs : Array Value} {T : TypeId} {fr : Nat × Nat} {R : Asn}

theorem St.cell (h : St W w (star (pt b (.cells cs T fr)) R)) (i : Nat) {v : Value} (hv : cs[i]? = some v) : w.cell? ⟨b, i, none⟩ = some v := by
  rw [cell_of_row w b i cs T fr h.blk]; exact hv
theorem St.free (h : St W w (star (pt b (.cells cs T (0, 0))) R)) (i : Nat) : w.frozen? ⟨b, i, none⟩ = false := by
  simp [World.frozen?, h.blk]
theorem St.setCell (h : St W w (star (pt b (.cells cs T fr)) R)) (i : Nat) (v : Value) : St W (w.setCell ⟨b, i, none⟩ v) (star (pt b (.cells (cs.setIfInBounds i v) T fr)) R) := by
  refine h.turn rfl rfl rfl (by simp) (fun k _ hk => Below.heap_setCell _ _ _ _ hk) ?_
  simp only [World.setCell, Array.getElem?_modify, if_true, h.blk, Option.map_some]
  rfl
theorem St.setRow (h : St W w (star (pt b (.cells cs T fr)) R)) (cs' : Array Value) : St W (w.setRow b cs') (star (pt b (.cells cs' T fr)) R) :=
  h.turn rfl rfl rfl (by simp [World.setRow]) (fun k _ hk => setRow_other w b k cs' hk) (setRow_heap w b cs cs' T fr h.blk)
/-- An old cell reads as it did. -/
theorem St.old {A : Asn} (h : St W w A) {p : Addr} (hp : p.block < W.heap.size) : w.cell? p = W.cell? p := h.1.cell hp
end

/-- A slice of the call's own: v has n elements of type e ('size' cells each), which are xs; nil, or at the head of a block of its own. -/
def Row (e : TypeId) (size : Nat) (v : Value) (n : Nat) (xs : List Value) : Asn := fun h =>
  xs.length = n * size ∧ ((v = .slice none 0 0 ∧ n = 0 ∧ emp h) ∨
    ∃ g cap cur, v = .slice (some ⟨g, 0, none⟩) n cap ∧ n ≤ cap ∧ cap ≤ maxLen ∧ cur.size = cap * size ∧ cur.toList.take (n * size) = xs ∧ pt g (.cells cur e (0, 0)) h)

theorem Row_nil (e size : Nat) : Row e size (.slice none 0 0) 0 [] = emp := by
  funext h
  apply propext
  constructor
  · rintro ⟨_, h | ⟨g, cap, cur, hv, _⟩⟩
    · exact h.2.2
    · cases hv
  · exact fun h => ⟨by simp, .inl ⟨rfl, rfl, h⟩⟩

theorem St.row {W w : World} {e size : Nat} {v : Value} {n : Nat} {xs : List Value} {R : Asn} (h : St W w (star (Row e size v n xs) R)) :
    xs.length = n * size ∧ ((v = .slice none 0 0 ∧ n = 0 ∧ xs = [] ∧ St W w R) ∨
      ∃ g cap cur, v = .slice (some ⟨g, 0, none⟩) n cap ∧ n ≤ cap ∧ cap ≤ maxLen ∧ cur.size = cap * size ∧ cur.toList.take (n * size) = xs ∧ St W w (star (pt g (.cells cur e (0, 0))) R)) := by
  have hr := h.right
  obtain ⟨hb, k, ⟨h1, h2, d, e', ⟨hl, a⟩, r⟩, f⟩ := h
  refine ⟨hl, ?_⟩
  rcases a with ⟨rfl, rfl, _⟩ | ⟨g, cap, cur, rfl, x1, x2, x3, x4, x5⟩
  · exact .inl ⟨rfl, rfl, List.eq_nil_of_length_eq_zero (by simpa using hl), hr⟩
  · exact .inr ⟨g, cap, cur, rfl, x1, x2, x3, x4, hb, k, ⟨h1, h2, d, e', x5, r⟩, f⟩

theorem St.mkRow {W w : World} {e size n cap g : Nat} {cur : Array Value} {xs : List Value} {R : Asn} (h : St W w (star (pt g (.cells cur e (0, 0))) R)) (hn : n ≤ cap) (hc : cap ≤ maxLen)
    (hs : cur.size = cap * size) (ht : cur.toList.take (n * size) = xs) : St W w (star (Row e size (.slice (some ⟨g, 0, none⟩) n cap) n xs) R) := by
  refine h.weak fun k => ?_
  rintro ⟨h1, h2, d, e', a, r⟩
  refine ⟨h1, h2, d, e', ⟨?_, .inr ⟨g, cap, cur, rfl, hn, hc, hs, ht, a⟩⟩, r⟩
  rw [← ht, List.length_take, Array.length_toList, hs]
  exact Nat.min_eq_left (Nat.mul_le_mul_right _ hn)

theorem St.nilRow {W w : World} {e size : Nat} {R : Asn} (h : St W w R) : St W w (star (Row e size (.slice none 0 0) 0 []) R) := by
  rw [Row_nil, emp_star]; exact h

/-- What a call that hands back v leaves, beside the frame R. -/
def Ret (W : World) (Φ : Value → Asn) (R : Asn) : Ending → World → Prop := fun e w' => ∃ v, e = .returned v ∧ St W w' (star (Φ v) R)

/-- append onto a slice of the call's own. -/
theorem run_append_St {P : Program} {W w : World} {R : Asn} (t ty e : TypeId) (i : TypeInfo) (z : Value) (size bytes : Nat) (ht : P.underlying t = some (.slice e)) (hi : P.info? e = some i) (hz : i.zero = some z)
    (hsize : i.size = size) (hby : i.bytes = bytes) (hzs : z.cells.size = size)
    (v : Value) (n : Nat) (xs : List Value) (h : St W w (star (Row e size v n xs) R))
    (a : Addr) (m c : Nat) (news : List Value) (hl : news.length = m * size) (hnews : ∀ j u, news[j]? = some u → w.cell? (a.add j) = some u) (h1 : ∀ u ∈ news, u.oneCell' = true)
    (h63 : n + m ≤ maxLen) (hbytes : (n + m) * bytes ≤ 140737488355328) :
    ∃ v' w', (Builtin.append_ #[t, t] ty #[v, .slice (some a) m c]).run P w = .ok v' w' ∧ St W w' (star (Row e size v' (n + m) (xs ++ news)) R) ∧ (v' = .slice none 0 0 ↔ v = .slice none 0 0 ∧ m = 0) := by
  subst hsize
  subst hby
  have hsmall : n + m ≤ 9223372036854775807 := by simp only [maxLen] at h63; omega
  obtain ⟨hxl, hv⟩ := h.row
  have grown : ∀ (old : Nat), old < n + m → St W w R →
      St W (w.drew.alloc (.cells (xs.toArray ++ news.toArray ++ Builtin.zeroCells z.cells (grownCap w (n + m) old e - (n + m))) e))
        (star (Row e i.size (.slice (some ⟨w.heap.size, 0, none⟩) (n + m) (grownCap w (n + m) old e)) (n + m) (xs ++ news)) R) := by
    intro old ho hR
    have hge := grownCap_ge w (n + m) old e
    have hlen : (xs ++ news).length = (n + m) * i.size := by rw [List.length_append, hxl, hl, Nat.add_mul]
    refine St.mkRow (hR.drew.alloc _) hge (grownCap_le_maxLen w (n + m) old e h63) ?_ ?_
    · simp only [Array.size_append, List.size_toArray, size_zeroCells, hzs, hxl, hl, ← Nat.add_mul]
      congr 1
      omega
    · simp only [Array.toList_append, List.append_assoc]
      rw [← List.append_assoc, ← hlen]
      exact List.take_left
  rcases hv with ⟨rfl, rfl, rfl, hR⟩ | ⟨g, cap, cur, rfl, hnc, hcm, hcs, htake, hg⟩
  · by_cases hm : m = 0
    · subst hm
      have hn : news = [] := List.eq_nil_of_length_eq_zero (by simpa using hl)
      subst hn
      refine ⟨.slice none 0 0, w, ?_, by simpa using hR.nilRow, by simp⟩
      simp [Builtin.append_, run_underlying ht, sizeOf, typeInfo, hi, Builtin.lenOf, Builtin.firstCells, loadCells, loadCellsFrom]
    · have hr := run_append_nil (P := P) w t ty e i z ht hi hz a m c news hl hnews (by omega) (by omega) (by have hb := hbytes; simp only [Nat.zero_add] at hb; omega)
      have hgr := grown 0 (by omega) hR
      simp only [Nat.zero_add, List.nil_append, Array.empty_append] at hgr ⊢
      exact ⟨_, _, hr, hgr, by simp [hm]⟩
  · by_cases hroom : n + m ≤ cap
    · have hfit : n * i.size + news.length ≤ cur.size := by rw [hl, hcs, ← Nat.add_mul]; exact Nat.mul_le_mul_right _ hroom
      have hr := run_append_room (P := P) w t ty e i ht hi g n cap cur hg.blk a m c news hl hnews h1 hroom hfit
      refine ⟨_, _, hr, St.mkRow (hg.setRow _) hroom hcm ?_ ?_, by simp⟩
      · simp only [List.size_toArray, List.length_append, List.length_take, List.length_drop, Array.length_toList]
        omega
      · have hlen : (xs ++ news).length = (n + m) * i.size := by rw [List.length_append, hxl, hl, Nat.add_mul]
        rw [htake, ← hlen]
        exact List.take_left
    · have holds : ∀ j u, xs[j]? = some u → w.cell? ((⟨g, 0, none⟩ : Addr).add j) = some u := by
        intro j u hu
        have hadd : (⟨g, 0, none⟩ : Addr).add j = ⟨g, j, none⟩ := by unfold Addr.add; split <;> simp_all
        rw [hadd, cell_of_row w g j cur e (0, 0) hg.blk]
        rw [← htake, List.getElem?_take] at hu
        split at hu
        · simpa using hu
        · cases hu
      have hr := run_append_grow (P := P) w t ty e i z ht hi hz ⟨g, 0, none⟩ n cap xs hxl holds a m c news hl hnews (by omega) (by omega) (growslice_fits (by omega) hbytes)
      exact ⟨_, _, hr, grown cap (by omega) hg.right, by simp⟩

theorem wpList_append_St {P : Program} {W w : World} {R : Asn} {ops : Array Oper} {rest : List Oper} {o : Oper} {a : Act} {Q : Exit → Act → World → Prop} (hgd : o.guard = none) (s x : Operand) (t : TypeId)
    (ho : o.op = .call { callee := .builtin .append, args := #[s, x], argTypes := #[t, t] })
    (e : TypeId) (i : TypeInfo) (z : Value) (size bytes : Nat) (ht : P.underlying t = some (.slice e)) (hi : P.info? e = some i) (hz : i.zero = some z)
    (hsize : i.size = size) (hby : i.bytes = bytes) (hzs : z.cells.size = size)
    (v : Value) (n : Nat) (xs : List Value) (hs : a.eval s = v) (hown : St W w (star (Row e size v n xs) R))
    (ad : Addr) (m c : Nat) (news : List Value) (hx : a.eval x = .slice (some ad) m c) (hl : news.length = m * size) (hnews : ∀ j u, news[j]? = some u → w.cell? (ad.add j) = some u) (h1 : ∀ u ∈ news, u.oneCell' = true)
    (h63 : n + m ≤ maxLen) (hbytes : (n + m) * bytes ≤ 140737488355328)
    (h : ∀ v' w', St W w' (star (Row e size v' (n + m) (xs ++ news)) R) → (v' = .slice none 0 0 ↔ v = .slice none 0 0 ∧ m = 0) → wpList P ops Q rest (a.put o.dst v') w') : wpList P ops Q (o :: rest) a w := by
  refine wpList_plain hgd fun _ hK => ?_
  obtain ⟨v', w', hr, h2, h4⟩ := run_append_St (P := P) t o.type e i z size bytes ht hi hz hsize hby hzs v n xs hown ad m c news hl hnews h1 h63 hbytes
  unfold Oper.wp execOp
  simp only [ho, resolve, invoke, builtin, Sem.run_bind, Sem.run_pure, Result.andThen_ok, List.map_toArray, List.map_cons, List.map_nil, hs, hx, hr]
  exact hK _ _ (h v' w' h2 h4)

/-! ### Calls that only read -/
/-- What a call leaves that reads at most: v, and the world but for draws. -/
def Quiet (w : World) (v : Value) (e : Ending) (w' : World) : Prop := e = .returned v ∧ ∃ n, w' = w.drewN n
theorem Quiet.mk0 (w : World) (v : Value) : Quiet w v (.returned v) w := ⟨rfl, 0, rfl⟩
theorem Quiet.mk1 (w : World) (v : Value) : Quiet w v (.returned v) w.drew := ⟨rfl, 1, rfl⟩
theorem Quiet.mkN (w : World) (v : Value) (n : Nat) : Quiet w v (.returned v) (w.drewN n) := ⟨rfl, n, rfl⟩
theorem Quiet.eq {w w' : World} {u v : Value} {e : Ending} (h : Quiet w u e w') (h2 : u = v) : Quiet w v e w' := h2 ▸ h
theorem St.quiet {W w w' : World} {A : Asn} {v : Value} {e : Ending} (h : St W w A) (q : Quiet w v e w') : St W w' A := by
  obtain ⟨_, n, rfl⟩ := q
  exact h.drewN n

theorem St.swap {W w : World} {A B R : Asn} (h : St W w (star A (star B R))) : St W w (star B (star A R)) := h.eq (star_left_comm A B R)

theorem int_eq {k : IntKind} {a b : Int} (h : a = b) : Value.int k a = .int k b := by rw [h]
theorem str_eq {a b : List UInt8} (h : a = b) : Value.string ⟨a.toArray⟩ = .string ⟨b.toArray⟩ := by rw [h]

/-! ### Slices -/
/-- A slice's piece from i to j, in the array of capacity c ('size' cells an element). -/
def cutV (a : Option Addr) (c i j size : Nat) : Value := .slice (if c = i then a else a.map (·.add (i * size))) (j - i) (c - i)
theorem run_cut_l {P : Program} (t e : TypeId) (size : Nat) (ht : P.underlying t = some (.slice e)) (hs : (P.info? e).map (·.size) = some size) (a : Option Addr) (n c i : Nat) (h : i ≤ n) (w : World) :
    (Instr.slice t (.slice a n c) (some (.int .i64 (i : Int))) none none).run P w = .ok (cutV a c i n size) w := by
  obtain ⟨inf, hi, hsz⟩ := Option.map_eq_some_iff.1 hs
  subst hsz
  have h1 : (0 : Int) ≤ (i : Int) ∧ (i : Int) ≤ (n : Int) := by omega
  simp [Instr.slice, run_underlying ht, Instr.sliceBounds, run_sliceBound, cutV, sizeOf, typeInfo, hi, h]
theorem run_cut_h {P : Program} (t e : TypeId) (size : Nat) (ht : P.underlying t = some (.slice e)) (hs : (P.info? e).map (·.size) = some size) (a : Option Addr) (n c j : Nat) (h : j ≤ c) (w : World) :
    (Instr.slice t (.slice a n c) none (some (.int .i64 (j : Int))) none).run P w = .ok (cutV a c 0 j size) w := by
  obtain ⟨inf, hi, hsz⟩ := Option.map_eq_some_iff.1 hs
  subst hsz
  simp [Instr.slice, run_underlying ht, Instr.sliceBounds, run_sliceBound, cutV, sizeOf, typeInfo, hi, h]
theorem run_cut_lh {P : Program} (t e : TypeId) (size : Nat) (ht : P.underlying t = some (.slice e)) (hs : (P.info? e).map (·.size) = some size) (a : Option Addr) (n c i j : Nat) (h1 : i ≤ j) (h : j ≤ c) (w : World) :
    (Instr.slice t (.slice a n c) (some (.int .i64 (i : Int))) (some (.int .i64 (j : Int))) none).run P w = .ok (cutV a c i j size) w := by
  obtain ⟨inf, hi, hsz⟩ := Option.map_eq_some_iff.1 hs
  subst hsz
  simp [Instr.slice, run_underlying ht, Instr.sliceBounds, run_sliceBound, cutV, sizeOf, typeInfo, hi, h, h1]

theorem run_cut_lI {P : Program} (t e : TypeId) (size : Nat) (ht : P.underlying t = some (.slice e)) (hs : (P.info? e).map (·.size) = some size) (a : Option Addr) (n c : Nat) (x : Int) (h0 : 0 ≤ x) (h : x ≤ n) (w : World) :
    (Instr.slice t (.slice a n c) (some (.int .i64 x)) none none).run P w = .ok (cutV a c x.toNat n size) w := by
  have := run_cut_l t e size ht hs a n c x.toNat (by omega) w
  rwa [Int.toNat_of_nonneg h0] at this
theorem run_cut_hI {P : Program} (t e : TypeId) (size : Nat) (ht : P.underlying t = some (.slice e)) (hs : (P.info? e).map (·.size) = some size) (a : Option Addr) (n c : Nat) (x : Int) (h0 : 0 ≤ x) (h : x ≤ c) (w : World) :
    (Instr.slice t (.slice a n c) none (some (.int .i64 x)) none).run P w = .ok (cutV a c 0 x.toNat size) w := by
  have := run_cut_h t e size ht hs a n c x.toNat (by omega) w
  rwa [Int.toNat_of_nonneg h0] at this
theorem run_cut_lhI {P : Program} (t e : TypeId) (size : Nat) (ht : P.underlying t = some (.slice e)) (hs : (P.info? e).map (·.size) = some size) (a : Option Addr) (n c : Nat) (x y : Int) (h0 : 0 ≤ x) (h1 : x ≤ y) (h : y ≤ c) (w : World) :
    (Instr.slice t (.slice a n c) (some (.int .i64 x)) (some (.int .i64 y)) none).run P w = .ok (cutV a c x.toNat y.toNat size) w := by
  have := run_cut_lh t e size ht hs a n c x.toNat y.toNat (by omega) (by omega) w
  rwa [Int.toNat_of_nonneg h0, Int.toNat_of_nonneg (by omega)] at this

/-! The bounds as they stand in the slots, beside the numbers that they are. -/
theorem run_cut_l' {P : Program} (t e : TypeId) (size : Nat) (ht : P.underlying t = some (.slice e)) (hs : (P.info? e).map (·.size) = some size) (a : Option Addr) (n c : Nat) (x : Int) (i : Nat) (hx : x = i) (h : i ≤ n) (w : World) :
    (Instr.slice t (.slice a n c) (some (.int .i64 x)) none none).run P w = .ok (cutV a c i n size) w := by
  subst hx; exact run_cut_l t e size ht hs a n c i h w
theorem run_cut_h' {P : Program} (t e : TypeId) (size : Nat) (ht : P.underlying t = some (.slice e)) (hs : (P.info? e).map (·.size) = some size) (a : Option Addr) (n c : Nat) (x : Int) (j : Nat) (hx : x = j) (h : j ≤ c) (w : World) :
    (Instr.slice t (.slice a n c) none (some (.int .i64 x)) none).run P w = .ok (cutV a c 0 j size) w := by
  subst hx; exact run_cut_h t e size ht hs a n c j h w
theorem run_cut_lh' {P : Program} (t e : TypeId) (size : Nat) (ht : P.underlying t = some (.slice e)) (hs : (P.info? e).map (·.size) = some size) (a : Option Addr) (n c : Nat) (x y : Int) (i j : Nat) (hx : x = i) (hy : y = j) (h1 : i ≤ j) (h : j ≤ c) (w : World) :
    (Instr.slice t (.slice a n c) (some (.int .i64 x)) (some (.int .i64 y)) none).run P w = .ok (cutV a c i j size) w := by
  subst hx; subst hy; exact run_cut_lh t e size ht hs a n c i j h1 h w

theorem str_extract (l : List UInt8) (i j : Nat) : (⟨l.toArray⟩ : ByteArray).extract i j = ⟨((l.drop i).take (j - i)).toArray⟩ := by
  apply ByteArray.ext
  simp [ByteArray.data_extract, List.extract_eq_take_drop]
theorem run_str_lh {P : Program} (t : TypeId) (ht : P.underlying t = some .string) (l : List UInt8) (x y : Int) (i j : Nat) (hx : x = i) (hy : y = j) (h1 : i ≤ j) (h : j ≤ l.length) (w : World) :
    (Instr.slice t (.string ⟨l.toArray⟩) (some (.int .i64 x)) (some (.int .i64 y)) none).run P w = .ok (.string ⟨((l.drop i).take (j - i)).toArray⟩) w := by
  subst hx; subst hy
  have hz : (⟨l.toArray⟩ : ByteArray).size = l.length := by simp [ByteArray.size]
  simp [Instr.slice, run_underlying ht, Instr.sliceBounds, run_sliceBound, h, h1, hz, str_extract]
theorem run_str_h {P : Program} (t : TypeId) (ht : P.underlying t = some .string) (l : List UInt8) (y : Int) (j : Nat) (hy : y = j) (h : j ≤ l.length) (w : World) :
    (Instr.slice t (.string ⟨l.toArray⟩) none (some (.int .i64 y)) none).run P w = .ok (.string ⟨(l.take j).toArray⟩) w := by
  subst hy
  have hz : (⟨l.toArray⟩ : ByteArray).size = l.length := by simp [ByteArray.size]
  simp [Instr.slice, run_underlying ht, Instr.sliceBounds, run_sliceBound, h, hz, str_extract]
theorem run_str_l {P : Program} (t : TypeId) (ht : P.underlying t = some .string) (l : List UInt8) (x : Int) (i : Nat) (hx : x = i) (h : i ≤ l.length) (w : World) :
    (Instr.slice t (.string ⟨l.toArray⟩) (some (.int .i64 x)) none none).run P w = .ok (.string ⟨(l.drop i).toArray⟩) w := by
  subst hx
  have hz : (⟨l.toArray⟩ : ByteArray).size = l.length := by simp [ByteArray.size]
  have : (l.drop i).take (l.length - i) = l.drop i := List.take_of_length_le (by simp)
  simp [Instr.slice, run_underlying ht, Instr.sliceBounds, run_sliceBound, h, hz, str_extract, this]

/-- v is a slice of n elements ('size' cells each) whose cells are xs in the world w. -/
def Sl (w : World) (size : Nat) (v : Value) (n : Nat) (xs : List Value) : Prop :=
  xs.length = n * size ∧ ∃ a c, v = .slice a n c ∧ n ≤ c ∧ c ≤ maxLen ∧ (a = none → c = 0) ∧ ∀ ad, a = some ad → ∀ i u, xs[i]? = some u → w.cell? (ad.add i) = some u

theorem Sl.drewN {w : World} {size : Nat} {v : Value} {n : Nat} {xs : List Value} (h : Sl w size v n xs) (k : Nat) : Sl (w.drewN k) size v n xs := h
theorem Sl.drew {w : World} {size : Nat} {v : Value} {n : Nat} {xs : List Value} (h : Sl w size v n xs) : Sl w.drew size v n xs := h
theorem Sl.nil (w : World) (size : Nat) : Sl w size (.slice none 0 0) 0 [] := ⟨by simp, none, 0, rfl, Nat.le_refl _, Nat.zero_le _, fun _ => rfl, fun _ h => by cases h⟩

theorem St.rowSl {W w : World} {e size : Nat} {v : Value} {n : Nat} {xs : List Value} {R : Asn} (h : St W w (star (Row e size v n xs) R)) : Sl w size v n xs := by
  obtain ⟨hl, h⟩ := h.row
  refine ⟨hl, ?_⟩
  rcases h with ⟨rfl, rfl, rfl, _⟩ | ⟨g, cap, cur, rfl, h1, h2, h3, h4, hS⟩
  · exact ⟨none, 0, rfl, Nat.le_refl _, Nat.zero_le _, fun _ => rfl, fun _ h => by cases h⟩
  · refine ⟨_, cap, rfl, h1, h2, (by intro h; cases h), fun ad hd i u hu => ?_⟩
    cases hd
    have hadd : (⟨g, 0, none⟩ : Addr).add i = ⟨g, i, none⟩ := by unfold Addr.add; split <;> simp_all
    rw [hadd, cell_of_row w g i cur e (0, 0) hS.blk]
    rw [← h4, List.getElem?_take] at hu
    split at hu
    · simpa using hu
    · cases hu

theorem add_add (a : Addr) (i j : Nat) : (a.add i).add j = a.add (i + j) := by
  unfold Addr.add
  by_cases hi : i = 0
  · subst hi; simp
  · by_cases hj : j = 0
    · subst hj; simp [hi]
    · simp [hi, hj, Nat.add_assoc]

/-- A piece of a slice. -/
theorem Sl.cut {w : World} {size : Nat} {a : Option Addr} {n c : Nat} {xs : List Value} (h : Sl w size (.slice a n c) n xs) (i j : Nat) (h1 : i ≤ j) (h2 : j ≤ n) :
    Sl w size (cutV a c i j size) (j - i) ((xs.drop (i * size)).take ((j - i) * size)) := by
  obtain ⟨hl, a', c', hv, h3, h4, h5, h6⟩ := h
  cases hv
  refine ⟨?_, _, _, rfl, by omega, by omega, ?_, fun ad hd k u hu => ?_⟩
  · rw [List.length_take, List.length_drop, hl, ← Nat.sub_mul]
    exact Nat.min_eq_left (Nat.mul_le_mul_right _ (by omega))
  · intro ha
    split at ha
    · omega
    · cases a with
      | none => have := h5 rfl; omega
      | some _ => cases ha
  · rw [List.getElem?_take] at hu
    split at hu
    · rename_i hk
      rw [List.getElem?_drop] at hu
      split at hd
      · rename_i hci
        have : j - i = 0 := by omega
        rw [this] at hk
        omega
      · cases a with
        | none => cases hd
        | some ad0 =>
          simp only [Option.map_some, Option.some.injEq] at hd
          subst hd
          rw [add_add]
          exact h6 ad0 rfl _ _ hu
    · cases hu

def bytesV (l : List UInt8) : List Value := l.map fun b => .int .u8 (b.toNat : Int)
theorem bytesV_length (l : List UInt8) : (bytesV l).length = l.length := by simp [bytesV]
theorem bytesV_take (l : List UInt8) (n : Nat) : (bytesV l).take n = bytesV (l.take n) := by simp [bytesV, List.map_take]
theorem bytesV_drop (l : List UInt8) (n : Nat) : (bytesV l).drop n = bytesV (l.drop n) := by simp [bytesV, List.map_drop]
theorem bytesV_append (l k : List UInt8) : bytesV (l ++ k) = bytesV l ++ bytesV k := by simp [bytesV]
theorem bytesV_one (l : List UInt8) : ∀ u ∈ bytesV l, u.oneCell' = true := by
  intro u hu
  obtain ⟨b, _, rfl⟩ := List.mem_map.1 hu
  rfl

/-- string(v) of bytes that lie in memory. -/
theorem run_string_of {P : Program} {w : World} {v : Value} {n : Nat} {l : List UInt8} (h : Sl w 1 v n (bytesV l)) (src dst e : TypeId) (hs : P.underlying src = some (.slice e)) (he : P.underlying e = some (.int .u8)) (hd : P.underlying dst = some .string) :
    (convert src dst v).run P w = .ok (.string ⟨l.toArray⟩) w := by
  obtain ⟨hl, a, c, rfl, h1, h2, h3, h4⟩ := h
  rw [bytesV_length, Nat.mul_one] at hl
  cases a with
  | none =>
    have : n = 0 := by have := h3 rfl; omega
    subst this
    obtain rfl := List.eq_nil_of_length_eq_zero hl
    rw [run_convert_bytes_nil w src e hs he 0 c dst hd]
    rfl
  | some ad =>
    have hld : (loadCells ad n).run P w = .ok ((l.map fun b => (b.toNat : Int)).map (Value.int .u8)).toArray w := by
      have := run_loadCells_list (P := P) w ad (bytesV l) (fun j u hj => h4 ad rfl j u hj)
      rw [bytesV_length, hl] at this
      rw [this]
      simp [bytesV, Function.comp_def]
    rw [run_convert_bytes_string w src dst e _ n c hs he hd, run_bytesToString w _ n c _ hld, foldl_push_bytes]
    have : (l.map fun b => (b.toNat : Int)).map (fun n => UInt8.ofNat n.toNat) = l := by
      simp [List.map_map, Function.comp_def]
    rw [this]
    simp [ByteArray.empty, ByteArray.emptyWithCapacity]
    rfl

/-! ### append, from whatever source -/
theorem run_append_Sl {P : Program} {W w : World} {R : Asn} (t ty e : TypeId) (i : TypeInfo) (z : Value) (size bytes : Nat) (ht : P.underlying t = some (.slice e)) (hi : P.info? e = some i) (hz : i.zero = some z)
    (hsize : i.size = size) (hby : i.bytes = bytes) (hzs : z.cells.size = size)
    (v : Value) (n : Nat) (xs : List Value) (h : St W w (star (Row e size v n xs) R))
    (x : Value) (m : Nat) (news : List Value) (hsl : Sl w size x m news) (h1 : ∀ u ∈ news, u.oneCell' = true)
    (h63 : n + m ≤ maxLen) (hbytes : (n + m) * bytes ≤ 140737488355328) :
    ∃ v' w', (Builtin.append_ #[t, t] ty #[v, x]).run P w = .ok v' w' ∧ St W w' (star (Row e size v' (n + m) (xs ++ news)) R) ∧ (v' = .slice none 0 0 ↔ v = .slice none 0 0 ∧ m = 0) := by
  obtain ⟨hl, a, c, rfl, hmc, hc, hn0, hcell⟩ := hsl
  cases a with
  | some ad => exact run_append_St (P := P) t ty e i z size bytes ht hi hz hsize hby hzs v n xs h ad m c news hl (hcell ad rfl) h1 h63 hbytes
  | none =>
    have hc0 := hn0 rfl
    subst hc0
    obtain rfl : m = 0 := by omega
    obtain rfl : news = [] := List.eq_nil_of_length_eq_zero (by simpa using hl)
    refine ⟨v, w, ?_, by simpa using h, by simp⟩
    obtain ⟨hxl, hv⟩ := h.row
    rcases hv with ⟨rfl, rfl, rfl, hR⟩ | ⟨g, cap, cur, rfl, hnc, hcm, hcs, htake, hg⟩
    · simp [Builtin.append_, run_underlying ht, sizeOf, typeInfo, hi, Builtin.lenOf, Builtin.firstCells]
    · simp [Builtin.append_, run_underlying ht, sizeOf, typeInfo, hi, Builtin.lenOf, Builtin.firstCells, hnc, storeCells]

theorem wpList_append_Sl {P : Program} {W w : World} {R : Asn} {ops : Array Oper} {rest : List Oper} {o : Oper} {a : Act} {Q : Exit → Act → World → Prop} (hgd : o.guard = none) (s x : Operand) (t : TypeId)
    (ho : o.op = .call { callee := .builtin .append, args := #[s, x], argTypes := #[t, t] })
    (e : TypeId) (i : TypeInfo) (z : Value) (size bytes : Nat) (ht : P.underlying t = some (.slice e)) (hi : P.info? e = some i) (hz : i.zero = some z)
    (hsize : i.size = size) (hby : i.bytes = bytes) (hzs : z.cells.size = size)
    (v : Value) (n : Nat) (xs : List Value) (hs : a.eval s = v) (hown : St W w (star (Row e size v n xs) R))
    (u : Value) (m : Nat) (news : List Value) (hx : a.eval x = u) (hsl : Sl w size u m news) (h1 : ∀ u ∈ news, u.oneCell' = true)
    (h63 : n + m ≤ maxLen) (hbytes : (n + m) * bytes ≤ 140737488355328)
    (h : ∀ v' w', St W w' (star (Row e size v' (n + m) (xs ++ news)) R) → (v' = .slice none 0 0 ↔ v = .slice none 0 0 ∧ m = 0) → wpList P ops Q rest (a.put o.dst v') w') : wpList P ops Q (o :: rest) a w := by
  refine wpList_plain hgd fun _ hK => ?_
  obtain ⟨v', w', hr, h2, h4⟩ := run_append_Sl (P := P) t o.type e i z size bytes ht hi hz hsize hby hzs v n xs hown u m news hsl h1 h63 hbytes
  unfold Oper.wp execOp
  simp only [ho, resolve, invoke, builtin, Sem.run_bind, Sem.run_pure, Result.andThen_ok, List.map_toArray, List.map_cons, List.map_nil, hs, hx, hr]
  exact hK _ _ (h v' w' h2 h4)

theorem strCells_bytesV (s : ByteArray) : Lib.strCells s = bytesV s.data.toList := by simp [Lib.strCells, bytesV]

theorem run_append_str {P : Program} {W w : World} {R : Asn} (t u ty e : TypeId) (i : TypeInfo) (ht : P.underlying t = some (.slice e)) (hu : P.underlying u = some .string) (hi : P.info? e = some i) (hz : i.zero = some (.int .u8 0))
    (hsize : i.size = 1) (hby : i.bytes = 1)
    (v : Value) (n : Nat) (xs : List Value) (h : St W w (star (Row e 1 v n xs) R)) (s : ByteArray) (h63 : n + s.size ≤ 140737488355328) :
    ∃ v' w', (Builtin.append_ #[t, u] ty #[v, .string s]).run P w = .ok v' w' ∧ St W w' (star (Row e 1 v' (n + s.size) (xs ++ bytesV s.data.toList)) R) ∧ (v' = .slice none 0 0 ↔ v = .slice none 0 0 ∧ s.size = 0) := by
  rw [← strCells_bytesV]
  have hsmall : n + s.size ≤ maxLen := by simp only [maxLen]; omega
  obtain ⟨hxl, hv⟩ := h.row
  rw [Nat.mul_one] at hxl
  have hlen : (xs ++ Lib.strCells s).length = (n + s.size) * 1 := by rw [List.length_append, hxl, Lib.strCells_length, Nat.mul_one]
  have grown : ∀ (old : Nat), old < n + s.size → St W w R →
      St W (w.drew.alloc (.cells (xs.toArray ++ (Lib.strCells s).toArray ++ Builtin.zeroCells (Value.int .u8 0).cells (grownCap w (n + s.size) old e - (n + s.size))) e))
        (star (Row e 1 (.slice (some ⟨w.heap.size, 0, none⟩) (n + s.size) (grownCap w (n + s.size) old e)) (n + s.size) (xs ++ Lib.strCells s)) R) := by
    intro old ho hR
    have hge := grownCap_ge w (n + s.size) old e
    refine St.mkRow (hR.drew.alloc _) hge (grownCap_le_maxLen w (n + s.size) old e hsmall) ?_ ?_
    · have hz1 : (Value.int IntKind.u8 0).cells.size = 1 := rfl
      simp only [Array.size_append, List.size_toArray, size_zeroCells, hz1, hxl, Lib.strCells_length]
      omega
    · simp only [Array.toList_append, List.append_assoc]
      rw [← List.append_assoc, ← hlen]
      exact List.take_left
  rcases hv with ⟨rfl, rfl, rfl, hR⟩ | ⟨g, cap, cur, rfl, hnc, hcm, hcs, htake, hg⟩
  · by_cases hm : s.size = 0
    · have hn : Lib.strCells s = [] := List.eq_nil_of_length_eq_zero (by rw [Lib.strCells_length]; exact hm)
      refine ⟨.slice none 0 0, w, ?_, by rw [hm, hn]; exact hR.nilRow, by simp [hm]⟩
      have hf := Lib.run_firstCells_string (P := P) w 1 s
      rw [hm] at hf
      simp [Builtin.append_, run_underlying ht, run_underlying hu, sizeOf, typeInfo, hi, hsize, Builtin.lenOf, hm, hf]
    · have hr := run_append_nil_string (P := P) w t u ty e i (.int .u8 0) ht hu hi hz s (by omega) (by omega) (by rw [hby]; omega)
      have hgr := grown 0 (by omega) hR
      simp only [Nat.zero_add, List.nil_append, Array.empty_append] at hgr ⊢
      have e1 : (s.data.map fun b => Value.int .u8 b.toNat) = (Lib.strCells s).toArray := by
        apply Array.ext'
        simp [Lib.strCells]
      rw [e1] at hr
      exact ⟨_, _, hr, hgr, by simp [hm]⟩
  · by_cases hroom : n + s.size ≤ cap
    · have hcs' : cur.size = cap := by simpa using hcs
      have hr := Lib.run_append_room_string (P := P) w t u ty e i ht hu hi hsize g n cap cur hg.blk s hroom (by omega)
      refine ⟨_, _, hr, St.mkRow (hg.setRow _) hroom hcm ?_ ?_, by simp⟩
      · simp only [List.size_toArray, List.length_append, List.length_take, List.length_drop, Array.length_toList, Lib.strCells_length]
        omega
      · have ht' : cur.toList.take n = xs := by simpa using htake
        rw [ht', ← hlen]
        exact List.take_left
    · have holds : ∀ j u, xs[j]? = some u → w.cell? ((⟨g, 0, none⟩ : Addr).add j) = some u := by
        obtain ⟨_, a', c', hv', _, _, _, hc'⟩ := h.rowSl
        cases hv'
        exact hc' _ rfl
      have hr := Lib.run_append_grow_string (P := P) w t u ty e i (.int .u8 0) ht hu hi hz ⟨g, 0, none⟩ n cap xs (by rw [hsize]; simpa using hxl) holds s (by omega) (by omega) (by rw [hby]; exact growslice_fits (by omega) (by omega))
      exact ⟨_, _, hr, grown cap (by omega) hg.right, by simp⟩

theorem wpList_append_str {P : Program} {W w : World} {R : Asn} {ops : Array Oper} {rest : List Oper} {o : Oper} {a : Act} {Q : Exit → Act → World → Prop} (hgd : o.guard = none) (sl x : Operand) (t u : TypeId)
    (ho : o.op = .call { callee := .builtin .append, args := #[sl, x], argTypes := #[t, u] })
    (e : TypeId) (i : TypeInfo) (ht : P.underlying t = some (.slice e)) (hu : P.underlying u = some .string) (hi : P.info? e = some i) (hz : i.zero = some (.int .u8 0))
    (hsize : i.size = 1) (hby : i.bytes = 1)
    (v : Value) (n : Nat) (xs : List Value) (hs : a.eval sl = v) (hown : St W w (star (Row e 1 v n xs) R)) (s : ByteArray) (hx : a.eval x = .string s) (h63 : n + s.size ≤ 140737488355328)
    (h : ∀ v' w', St W w' (star (Row e 1 v' (n + s.size) (xs ++ bytesV s.data.toList)) R) → (v' = .slice none 0 0 ↔ v = .slice none 0 0 ∧ s.size = 0) → wpList P ops Q rest (a.put o.dst v') w') : wpList P ops Q (o :: rest) a w := by
  refine wpList_plain hgd fun K hK => ?_
  obtain ⟨v', w', hr, h2, h4⟩ := run_append_str (P := P) t u o.type e i ht hu hi hz hsize hby v n xs hown s h63
  unfold Oper.wp execOp
  simp only [ho, resolve, invoke, builtin, Sem.run_bind, Sem.run_pure, Result.andThen_ok, List.map_toArray, List.map_cons, List.map_nil, hs, hx, hr]
  exact hK _ _ (h v' w' h2 h4)

end Go.Proofs.YtcjlbimmplejjaaGreatDoor.Sep
