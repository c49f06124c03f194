/-
  More on what a call leaves: calls that only make memory, one piece of memory beside another, a string's iterator. No program is named here.
-/
import Derived.Test.YtcjlbimmplejjaaGreatDoorSep
import Derived.Test.YtcjlbimmplejjaaGreatDoorFrame
import Derived.Lib.OthersKept
import Derived.Laws.RangeAny
import Derived.Laws.Runes
import Derived.Laws.IdiomStrings
namespace Go.Proofs.YtcjlbimmplejjaaGreatDoor.Sep
open Go Go.RowKit

/-- A call that hands back v and makes memory at most. -/
def Makes (w : World) (v : Value) (e : Ending) (w' : World) : Prop := e = .returned v ∧ Below w.heap.size w w'
theorem Makes.mk0 (w : World) (v : Value) : Makes w v (.returned v) w := ⟨rfl, Below.refl _ _⟩
theorem Makes.eq {w w' : World} {u v : Value} {e : Ending} (h : Makes w u e w') (h2 : u = v) : Makes w v e w' := h2 ▸ h
theorem Makes.of {w w' : World} {v : Value} {A : Asn} (h : St w w' A) : Makes w v (.returned v) w' := ⟨rfl, h.below⟩

/-- What lies above w0 is kept by a call that turns nothing of w. -/
theorem St.past {W w w' : World} {A : Asn} (h : St W w A) (hb : Below w.heap.size w w') : St W w' A :=
  h.same ⟨hb.os.trans h.below.os, hb.tape.trans h.below.tape, hb.output.trans h.below.output, Nat.le_trans h.below.size hb.size, fun k hk => (hb.block k (Nat.lt_of_lt_of_le hk h.below.size)).trans (h.below.block k hk)⟩ (fun k hk => hb.block k hk)
theorem St.makes {W w w' : World} {A : Asn} {v : Value} {e : Ending} (h : St W w A) (q : Makes w v e w') : St W w' A := St.past h q.2

/-- The memory that a call made, beside what was there. -/
theorem St.comp {W w w' : World} {A B : Asn} (h : St W w A) (k : St w w' B) : St W w' (star B A) := by
  have h' := St.past h k.below
  have hW := h.below.size
  obtain ⟨hb, x, hx, fx⟩ := k
  obtain ⟨_, y, hy, fy⟩ := h
  obtain ⟨hb', _, _, _⟩ := h'
  refine ⟨hb', PH.uni x y, ⟨x, y, fun c => ?_, rfl, hx, hy⟩, fun c o hc => ?_⟩
  · cases e : x c with
    | none => exact .inl rfl
    | some o =>
      right
      cases e2 : y c with
      | none => rfl
      | some o2 =>
        have h1 := (fx c o e).1
        have h2 := (Array.getElem?_eq_some_iff.1 (fy c o2 e2).2).1
        omega
  · unfold PH.uni at hc
    cases e : x c with
    | none =>
      rw [e] at hc
      have := fy c o hc
      exact ⟨this.1, (hb.block c (Array.getElem?_eq_some_iff.1 this.2).1).trans this.2⟩
    | some o' =>
      rw [e] at hc
      cases hc
      have := fx c o e
      exact ⟨Nat.le_trans hW this.1, this.2⟩

/-- A string's iterator moves on. -/
theorem St.iterAt {W w : World} {k : Nat} {s : ByteArray} {p : Nat} {R : Asn} (h : St W w (star (pt k (.stringIter s p)) R)) (p' : Nat) : St W (w.iterAt k s p') (star (pt k (.stringIter s p')) R) :=
  h.turn rfl rfl rfl (by rw [Lib.iterAt_size]; exact Nat.le_refl _) (fun j _ hj => Lib.iterAt_other w k j s p' hj) (Lib.iterAt_heap w k s p p' h.blk)
theorem St.iter {W w : World} {A : Asn} (h : St W w A) (s : ByteArray) : St W (w.iter s 0) (star (pt w.heap.size (.stringIter s 0)) A) := h.alloc _

/-- string([]byte{y}). -/
theorem run_string_one {P : Program} (src dst e : TypeId) (hs : P.underlying src = some (.slice e)) (he : P.underlying e = some (.int .u8)) (hd : P.underlying dst = some .string) (w : World) (k : Nat) (hk : w.heap.size = k) (y : Int) (n : Nat) (hy : y = n) (hn : n < 256) (fr : Nat × Nat) :
    (convert src dst (.slice (some ⟨k, 0, none⟩) 1 1)).run P (w.alloc (.cells #[.int .u8 y] e fr)) = .ok (.string ⟨#[UInt8.ofNat n]⟩) (w.alloc (.cells #[.int .u8 y] e fr)) := by
  subst hy
  subst hk
  have hb : ((UInt8.ofNat n).toNat : Int) = (n : Int) := by simp; omega
  have hl : Sl (w.alloc (.cells #[.int .u8 n] e fr)) 1 (.slice (some ⟨w.heap.size, 0, none⟩) 1 1) 1 (bytesV [UInt8.ofNat n]) := by
    refine ⟨by simp [bytesV], _, _, rfl, Nat.le_refl _, by decide, (by intro h; cases h), fun ad hd i u hu => ?_⟩
    cases hd
    cases i with
    | zero =>
      simp only [bytesV, List.map_cons, List.map_nil, List.getElem?_cons_zero, Option.some.injEq] at hu
      subst hu
      rw [show (⟨w.heap.size, 0, none⟩ : Addr).add 0 = ⟨w.heap.size, 0, none⟩ from rfl, hb]
      rw [cell_of_row _ w.heap.size 0 #[.int .u8 n] e fr (by show (w.heap.push _)[w.heap.size]? = _; simp)]
      rfl
    | succ i => simp [bytesV] at hu
  exact run_string_of hl src dst e hs he hd

/-- append of one element that was just laid (append(s, x)): onto a slice of the call's own. -/
theorem wpList_append1 {P : Program} {W w : World} {R : Asn} {ops : Array Oper} {rest : List Oper} {o : Oper} {a : Act} {Q : Exit → Act → World → Prop} (hgd : o.guard = none) (s x : Operand) (t : TypeId)
    (ho : o.op = .call { callee := .builtin .append, args := #[s, x], argTypes := #[t, t] })
    (e : TypeId) (i : TypeInfo) (z : Value) (size bytes : Nat) (ht : P.underlying t = some (.slice e)) (hi : P.info? e = some i) (hz : i.zero = some z)
    (hsize : i.size = size) (hby : i.bytes = bytes) (hzs : z.cells.size = size)
    (v : Value) (n : Nat) (xs : List Value) (hs : a.eval s = v) (hown : St W w (star (Row e size v n xs) R))
    (cs : Array Value) (hcs : cs.size = size) (hx : a.eval x = .slice (some ⟨w.heap.size, 0, none⟩) 1 1) (h1 : ∀ u ∈ cs.toList, u.oneCell' = true)
    (h63 : n + 1 ≤ maxLen) (hbytes : (n + 1) * bytes ≤ 140737488355328)
    (h : ∀ a' c' w', St W w' (star (Row e size (.slice (some ⟨a', 0, none⟩) (n + 1) c') (n + 1) (xs ++ cs.toList)) R) → wpList P ops Q rest (a.put o.dst (.slice (some ⟨a', 0, none⟩) (n + 1) c')) w') :
    wpList P ops Q (o :: rest) a (w.alloc (.cells cs e (0, 0))) := by
  have h2 := hown.alloc (.cells cs e (0, 0))
  refine wpList_append_St hgd s x t ho e i z size bytes ht hi hz hsize hby hzs v n xs hs h2.swap ⟨w.heap.size, 0, none⟩ 1 1 cs.toList hx (by simp [hcs]) (fun j u hu => ?_) h1 h63 hbytes (fun v' w' hS hv => ?_)
  · have := h2.cell j (v := u) (by simpa using hu)
    rw [← this]
    unfold Addr.add
    split <;> simp_all
  · have hS' : St W w' (star (Row e size v' (n + 1) (xs ++ cs.toList)) R) := hS.swap.right
    obtain ⟨_, hv'⟩ := hS'.row
    rcases hv' with ⟨rfl, h0, _⟩ | ⟨g, cap, cur, rfl, _⟩
    · omega
    · exact h g cap w' hS'

/-- []byte(s): a new block of bytes (with a mark behind its last cell). -/
theorem St.bytesOf {P : Program} {W w : World} {R : Asn} (h : St W w R) (src dst e : TypeId) (hs : P.underlying src = some .string) (hd : P.underlying dst = some (.slice e)) (he : P.underlying e = some (.int .u8)) (l : List UInt8) (hl : l.length ≤ maxLen) :
    ∃ cs cap w1, (convert src dst (.string ⟨l.toArray⟩)).run P w = .ok (.slice (some ⟨w.heap.size, 0, none⟩) l.length cap) w1 ∧ cs.toList.take l.length = bytesV l ∧ l.length ≤ cs.size ∧ l.length ≤ cap ∧ cap ≤ maxLen ∧
      St W w1 (star (pt w.heap.size (.cells cs e (cs.size, cs.size + 1))) R) := by
  have hz : (ByteArray.mk l.toArray).size = l.length := by simp [ByteArray.size]
  refine ⟨_, _, _, by rw [run_bytes_of_string w src dst e ⟨l.toArray⟩ hs hd he, hz], ?_, ?_, ?_, ?_, h.drew.alloc _⟩
  · simp [bytesRow, bytesV]
  · simp [bytesRow, hz]
  · exact grownCap_ge w l.length 0 e
  · exact grownCap_le_maxLen w l.length 0 e hl
section
variable {W w : World} {b : Nat} {cs : Array Value} {T : TypeId} {fr : Nat × Nat} {R : Asn}
theorem St.free_lt (h : St W w (star (pt b (.cells cs T fr)) R)) (i : Nat) (hi : i < fr.1) : w.frozen? ⟨b, i, none⟩ = false := by
  simp [World.frozen?, h.blk]
  omega
/-- A block's head, as a slice of bytes. -/
theorem St.headSl (h : St W w (star (pt b (.cells cs T fr)) R)) (n cap : Nat) (l : List UInt8) (hn : l.length = n) (hc : n ≤ cap) (hm : cap ≤ maxLen) (ht : cs.toList.take n = bytesV l) : Sl w 1 (.slice (some ⟨b, 0, none⟩) n cap) n (bytesV l) := by
  refine ⟨by rw [bytesV_length, hn, Nat.mul_one], _, _, rfl, hc, hm, (by intro h; cases h), fun ad hd i u hu => ?_⟩
  cases hd
  have hadd : (⟨b, 0, none⟩ : Addr).add i = ⟨b, i, none⟩ := by unfold Addr.add; split <;> simp_all
  rw [hadd, cell_of_row w b i cs T fr h.blk]
  rw [← ht, List.getElem?_take] at hu
  split at hu
  · simpa using hu
  · cases hu
end
theorem set_take (cs : Array Value) (n k : Nat) (v : Value) (l : List Value) (h : cs.toList.take n = l) : (cs.setIfInBounds k v).toList.take n = l.set k v := by
  rw [← h, Array.toList_setIfInBounds, List.take_set]
theorem bytesV_set (l : List UInt8) (k : Nat) (c : UInt8) : (bytesV l).set k (.int .u8 (c.toNat : Int)) = bytesV (l.set k c) := by simp [bytesV, List.map_set]

/-- A list of numbers, as cells of an []int. -/
def intsV (l : List Nat) : List Value := l.map fun (b : Nat) => .int .i64 (b : Int)
theorem intsV_length (l : List Nat) : (intsV l).length = l.length := by simp [intsV]
theorem intsV_append (l k : List Nat) : intsV (l ++ k) = intsV l ++ intsV k := by simp [intsV]
theorem intsV_get (l : List Nat) (i : Nat) : (intsV l)[i]? = (l[i]?).map fun (b : Nat) => Value.int .i64 (b : Int) := by simp [intsV]

end Go.Proofs.YtcjlbimmplejjaaGreatDoor.Sep
