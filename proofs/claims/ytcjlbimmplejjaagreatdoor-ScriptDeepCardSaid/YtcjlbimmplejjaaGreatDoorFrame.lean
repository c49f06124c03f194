/-
  From arguments that read as data to what a walk is told of them; from a walk to the statement. No law is named here.
-/
import Derived.Test.YtcjlbimmplejjaaGreatDoorSep
import Derived.ProofKit
import Derived.OpenShut
import Derived.ShutString
import Derived.ChangeOld
import Derived.Below
import Derived.Deep.Slices
import Derived.Deep.Strs
import Derived.SizedLaws
import Derived.Laws.Concat
namespace Go.Proofs.YtcjlbimmplejjaaGreatDoor.Frame
open Go Go.RowKit Go.Proofs.YtcjlbimmplejjaaGreatDoor.Sep

/-- What a law leaves: true, and of its own memory nothing. -/
def Law (W : World) (R : Asn) (e : Ending) (w' : World) : Prop := e = .returned (.bool true) ∧ St W w' R

theorem exists_list {T : Type} {Q : Nat → T → Prop} : ∀ n : Nat, (∀ i, i < n → ∃ x, Q i x) → ∃ xs : List T, xs.length = n ∧ ∀ i x, xs[i]? = some x → Q i x
  | 0, _ => ⟨[], rfl, fun i x h => by simp at h⟩
  | n + 1, h => by
    obtain ⟨xs, hl, hx⟩ := exists_list n (fun i hi => h i (by omega))
    obtain ⟨x, hq⟩ := h n (by omega)
    refine ⟨xs ++ [x], by simp [hl], fun i y hy => ?_⟩
    by_cases hi : i < n
    · rw [List.getElem?_append_left (by omega)] at hy
      exact hx i y hy
    · rw [List.getElem?_append_right (by omega)] at hy
      have hi' : i = n := by
        have := (List.getElem?_eq_some_iff.1 hy).1
        simp at this
        omega
      subst hi'
      rw [hl, Nat.sub_self] at hy
      simp at hy
      subst hy
      exact hq

theorem cells?_get {w : World} {base : Nat} {a : Addr} {n : Nat} {cs : List Value} (h : w.cells? base a n = some cs) : cs.length = n ∧ ∀ j u, cs[j]? = some u → w.cell? (a.add j) = some u := by
  obtain ⟨_, hl, hc⟩ := World.cells?_some h
  refine ⟨hl, fun j u hu => ?_⟩
  have hj : j < n := by rw [← hl]; exact (List.getElem?_eq_some_iff.1 hu).1
  rw [hc j hj]; exact hu

section
variable {P : Program} {H : Type} {enc : TypeId × Value → H} {w : World} {base : Nat} {spare : Nat → Bool} {held : Bool}

/-- A slice that came in, whose elements are known by what they hold: E x are the cells of x. -/
theorem slice_in {T : Type} {E : T → List Value} {Ok : T → Prop} {t e : TypeId} {size fuel : Nat} {a : Option Addr} {len cap : Nat} {x : DataW H × List MemPlace} (ht : P.underlying t = some (.slice e)) (hs : P.cellsOf e = size)
    (hE : ∀ (n : Nat) (cs : List Value) (y : DataW H × List MemPlace), DataW.trod enc P w base spare held n e cs = some y → ∃ x, cs = E x ∧ Ok x)
    (hl : ∀ x, (E x).length = size) (hsz : 0 < size)
    (h : DataW.trod enc P w base spare held fuel t [.slice a len cap] = some x) :
    ∃ xs : List T, xs.length = len ∧ Sl w size (.slice a len cap) len (xs.flatMap E) ∧ ∀ x ∈ xs, Ok x := by
  subst hs
  have hfl : ∀ xs : List T, (xs.flatMap E).length = xs.length * P.cellsOf e := by
    intro xs
    induction xs with
    | nil => simp
    | cons y ys ih => rw [List.flatMap_cons, List.length_append, ih, hl, List.length_cons, Nat.add_mul, Nat.one_mul, Nat.add_comm]
  rcases Deep.open_slice ht h with ⟨hv, _⟩ | ⟨ad, l, c, m, n, D, Pl, hv, _, hlc, hcm, hm, _, hel⟩
  · simp at hv
    obtain ⟨rfl, rfl, rfl⟩ := hv
    exact ⟨[], rfl, by simpa using Sl.nil w (P.cellsOf e), by simp⟩
  · simp at hv
    obtain ⟨rfl, rfl, rfl⟩ := hv
    have hlm : len ≤ m := by rw [hm]; split <;> omega
    obtain ⟨xs, hxl, hx⟩ := exists_list (T := T) (Q := fun i x => w.cells? base (ad.add (i * P.cellsOf e)) (P.cellsOf e) = some (E x) ∧ Ok x) len (fun i hi => by
      obtain ⟨cs', hc, htr⟩ := hel i (by omega)
      obtain ⟨y, rfl, hok⟩ := hE _ _ _ htr
      exact ⟨y, hc, hok⟩)
    refine ⟨xs, hxl, ⟨by rw [hfl, hxl], some ad, cap, rfl, hlc, hcm, (by intro h; cases h), fun ad' hd j u hu => ?_⟩, fun y hy => ?_⟩
    · cases hd
      have key : ∀ (ys : List T) (k : Nat), (∀ i y, ys[i]? = some y → w.cells? base (ad.add ((k + i) * P.cellsOf e)) (P.cellsOf e) = some (E y)) → ∀ j u, (ys.flatMap E)[j]? = some u → w.cell? (ad.add (k * P.cellsOf e + j)) = some u := by
        intro ys
        induction ys with
        | nil => intro k _ j u hu; simp at hu
        | cons y ys ih =>
          intro k hk j u hu
          rw [List.flatMap_cons] at hu
          by_cases hj : j < P.cellsOf e
          · rw [List.getElem?_append_left (by rw [hl]; exact hj)] at hu
            have := (cells?_get (hk 0 y rfl)).2 j u hu
            rw [add_add] at this
            simpa using this
          · rw [List.getElem?_append_right (by rw [hl]; omega), hl] at hu
            have := ih (k + 1) (fun i z hz => by have := hk (i + 1) z hz; rwa [show k + 1 + i = k + (i + 1) from by omega]) _ u hu
            rwa [show (k + 1) * P.cellsOf e + (j - P.cellsOf e) = k * P.cellsOf e + j from by rw [Nat.add_mul]; omega] at this
      have := key xs 0 (fun i y hy => by rw [Nat.zero_add]; exact (hx i y hy).1) j u hu
      simpa using this
    · obtain ⟨i, hi⟩ := List.getElem?_of_mem hy
      exact (hx i y hi).2

/-- A string, as its bytes. -/
theorem string_list (s : ByteArray) : ∃ l : List UInt8, s = ⟨l.toArray⟩ := ⟨s.data.toList, by cases s; simp⟩
theorem string_in {t : TypeId} {n : Nat} {cs : List Value} {y : DataW H × List MemPlace} (ht : P.underlying t = some .string) (h : DataW.trod enc P w base spare held n t cs = some y) :
    ∃ l : List UInt8, cs = [.string ⟨l.toArray⟩] ∧ l.length ≤ maxLen := by
  obtain ⟨s, rfl, _, hs⟩ := DataW.trod_string ht h
  obtain ⟨l, rfl⟩ := string_list s
  exact ⟨l, rfl, by simpa [ByteArray.size] using hs⟩
theorem int_in {t : TypeId} {k : IntKind} {n : Nat} {cs : List Value} {y : DataW H × List MemPlace} (ht : P.underlying t = some (.int k)) (h : DataW.trod enc P w base spare held n t cs = some y) :
    ∃ z : Int, cs = [.int k z] ∧ (Lit.int k z).wf = true := by
  obtain ⟨z, rfl, _, hz⟩ := DataW.trod_int ht h
  exact ⟨z, rfl, hz⟩
theorem bool_in {t : TypeId} {n : Nat} {cs : List Value} {y : DataW H × List MemPlace} (ht : P.underlying t = some .bool) (h : DataW.trod enc P w base spare held n t cs = some y) :
    ∃ z : Bool, cs = [.bool z] ∧ True := by
  obtain ⟨z, rfl, _⟩ := DataW.trod_bool ht h
  exact ⟨z, rfl, trivial⟩
end

/-! ### Elements of slices that came in, in later worlds -/
theorem sl_later {W w : World} {A : Asn} {size : Nat} {v : Value} {n : Nat} {xs : List Value} (h : Sl W size v n xs) (hS : St W w A) : Sl w size v n xs := by
  obtain ⟨hl, a, c, hv, h1, h2, h3, h4⟩ := h
  refine ⟨hl, a, c, hv, h1, h2, h3, fun ad hd i u hu => ?_⟩
  have := h4 ad hd i u hu
  rw [hS.old (World.block_lt_of_cell? W _ this)]
  exact this

theorem sl_addr {w : World} {size : Nat} {a : Option Addr} {n c : Nat} {xs : List Value} (h : Sl w size (.slice a n c) n xs) (hx : 0 < xs.length) :
    ∃ ab ao, a = some ⟨ab, ao, none⟩ ∧ ∀ i u, xs[i]? = some u → w.cell? ⟨ab, ao + i, none⟩ = some u := by
  obtain ⟨hl, a', c', hv, h1, h2, h3, h4⟩ := h
  cases hv
  cases a with
  | none =>
    have := h3 rfl
    have : n = 0 := by omega
    subst this
    omega
  | some ad =>
    obtain ⟨ab, ao, sp⟩ := ad
    have h0 := h4 _ rfl 0 xs[0] (by simp [hx])
    have hsp : sp = none := by simpa [Addr.add] using World.cell?_spot h0
    subst hsp
    refine ⟨ab, ao, rfl, fun i u hu => ?_⟩
    have := h4 _ rfl i u hu
    rwa [Addr.add_lit] at this

theorem flatMap_get {T : Type} {E : T → List Value} {size : Nat} (hl : ∀ x, (E x).length = size) : ∀ (xs : List T) (k : Nat) (x : T), xs[k]? = some x → ∀ j, j < size → (xs.flatMap E)[k * size + j]? = (E x)[j]?
  | [], k, x, h, j, _ => by simp at h
  | y :: ys, 0, x, h, j, hj => by
    simp at h; subst h
    rw [List.flatMap_cons, Nat.zero_mul, Nat.zero_add, List.getElem?_append_left (by rw [hl]; exact hj)]
  | y :: ys, k + 1, x, h, j, hj => by
    rw [List.flatMap_cons, List.getElem?_append_right (by rw [hl, Nat.add_mul]; omega), hl]
    have := flatMap_get hl ys k x (by simpa using h) j hj
    rwa [show (k + 1) * size + j - size = k * size + j from by rw [Nat.add_mul]; omega]

/-! A slice of strings that came in, as lists of bytes. -/
namespace Str
def E (l : List UInt8) : List Value := [.string ⟨l.toArray⟩]
def Ok (l : List UInt8) : Prop := l.length ≤ maxLen
theorem len (l : List UInt8) : (E l).length = 1 := rfl
theorem dec {H : Type} {enc : TypeId × Value → H} {w : World} {base : Nat} {spare : Nat → Bool} {held : Bool} {n : Nat} {cs : List Value} {y : DataW H × List MemPlace} {P : Program} {t : TypeId} (ht : P.underlying t = some .string)
    (h : DataW.trod enc P w base spare held n t cs = some y) : ∃ x, cs = E x ∧ Ok x := string_in ht h
end Str

/-- The element k of a slice of strings. -/
theorem str_at {w : World} {a : Option Addr} {n c : Nat} {xs : List (List UInt8)} (h : Sl w 1 (.slice a n c) n (xs.flatMap Str.E)) {k : Nat} {x : List UInt8} (hk : xs[k]? = some x) :
    ∃ ab ao, a = some ⟨ab, ao, none⟩ ∧ w.cell? ⟨ab, ao + k, none⟩ = some (.string ⟨x.toArray⟩) := by
  have hg := flatMap_get (E := Str.E) Str.len xs k x hk 0 (by omega)
  rw [Nat.mul_one, Nat.add_zero] at hg
  have hlen : 0 < (xs.flatMap Str.E).length := by
    have := (List.getElem?_eq_some_iff.1 (show (xs.flatMap Str.E)[k]? = some (.string ⟨x.toArray⟩) from hg)).1
    omega
  obtain ⟨ab, ao, rfl, hc⟩ := sl_addr h hlen
  exact ⟨ab, ao, rfl, hc k _ hg⟩

/-- .. in every later world. -/
theorem str_at_all {W : World} {a : Option Addr} {n c : Nat} {xs : List (List UInt8)} (h : Sl W 1 (.slice a n c) n (xs.flatMap Str.E)) {k : Nat} {x : List UInt8} (hk : xs[k]? = some x) :
    ∃ ab ao, a = some ⟨ab, ao, none⟩ ∧ ∀ w A, St W w A → w.cell? ⟨ab, ao + k, none⟩ = some (.string ⟨x.toArray⟩) := by
  obtain ⟨ab, ao, rfl, hc⟩ := str_at h hk
  exact ⟨ab, ao, rfl, fun w A hS => (hS.old (World.block_lt_of_cell? W _ hc)).trans hc⟩

/-! A slice of bytes that came in. -/
namespace Byte
def E (b : UInt8) : List Value := [.int .u8 (b.toNat : Int)]
def Ok (_ : UInt8) : Prop := True
theorem len (b : UInt8) : (E b).length = 1 := rfl
theorem dec {H : Type} {enc : TypeId × Value → H} {w : World} {base : Nat} {spare : Nat → Bool} {held : Bool} {n : Nat} {cs : List Value} {y : DataW H × List MemPlace} {P : Program} {t : TypeId} (ht : P.underlying t = some (.int .u8))
    (h : DataW.trod enc P w base spare held n t cs = some y) : ∃ x, cs = E x ∧ Ok x := by
  obtain ⟨z, rfl, hz⟩ := int_in ht h
  simp [Lit.wf, IntKind.min, IntKind.max, IntKind.signed, IntKind.bits] at hz
  refine ⟨UInt8.ofNat z.toNat, ?_, trivial⟩
  have : (UInt8.ofNat z.toNat).toNat = z.toNat := by simp; omega
  unfold E
  rw [this, Int.toNat_of_nonneg hz.1]
end Byte
theorem byte_at_all {W : World} {a : Option Addr} {n c : Nat} {xs : List UInt8} (h : Sl W 1 (.slice a n c) n (xs.flatMap Byte.E)) {k : Nat} {x : UInt8} (hk : xs[k]? = some x) :
    ∃ ab ao, a = some ⟨ab, ao, none⟩ ∧ ∀ w A, St W w A → w.cell? ⟨ab, ao + k, none⟩ = some (.int .u8 (x.toNat : Int)) := by
  have hg := flatMap_get (E := Byte.E) Byte.len xs k x hk 0 (by omega)
  rw [Nat.mul_one, Nat.add_zero] at hg
  have hlen : 0 < (xs.flatMap Byte.E).length := by
    have := (List.getElem?_eq_some_iff.1 (show (xs.flatMap Byte.E)[k]? = some (.int .u8 (x.toNat : Int)) from hg)).1
    omega
  obtain ⟨ab, ao, rfl, hc⟩ := sl_addr h hlen
  have hc := hc k _ hg
  exact ⟨ab, ao, rfl, fun w A hS => (hS.old (World.block_lt_of_cell? W _ hc)).trans hc⟩

/-- The lengths, each up to c, together. -/
def sumMin (c : Nat) : List (List UInt8) → Nat
  | [] => 0
  | x :: xs => min x.length c + sumMin c xs
theorem sumMin_append (c : Nat) : ∀ xs ys, sumMin c (xs ++ ys) = sumMin c xs + sumMin c ys
  | [], ys => by simp [sumMin]
  | x :: xs, ys => by simp [sumMin, sumMin_append c xs ys, Nat.add_assoc]
theorem take_snoc {T : Type} (xs : List T) (k : Nat) (x : T) (h : xs[k]? = some x) : xs.take (k + 1) = xs.take k ++ [x] := by
  rw [List.take_add_one, h]; rfl
theorem sumMin_snoc (c : Nat) (xs : List (List UInt8)) (k : Nat) (x : List UInt8) (h : xs[k]? = some x) : sumMin c (xs.take (k + 1)) = sumMin c (xs.take k) + min x.length c := by
  rw [take_snoc xs k x h, sumMin_append]; simp [sumMin]
theorem sumMin_le (c : Nat) : ∀ xs, sumMin c xs ≤ c * xs.length
  | [] => by simp [sumMin]
  | x :: xs => by have := sumMin_le c xs; simp only [sumMin, List.length_cons, Nat.mul_add, Nat.mul_one]; omega
theorem sumMin_mem (c : Nat) : ∀ (xs : List (List UInt8)) x, x ∈ xs → min x.length c ≤ sumMin c xs
  | [], x, h => by cases h
  | y :: ys, x, h => by
    rcases List.mem_cons.1 h with rfl | h
    · simp only [sumMin]; omega
    · have := sumMin_mem c ys x h; simp only [sumMin]; omega
/-- All lengths together. -/
def totLen : List (List UInt8) → Nat
  | [] => 0
  | x :: xs => x.length + totLen xs
theorem totLen_append : ∀ xs ys, totLen (xs ++ ys) = totLen xs + totLen ys
  | [], ys => by simp [totLen]
  | x :: xs, ys => by simp [totLen, totLen_append xs ys, Nat.add_assoc]
theorem totLen_snoc (xs : List (List UInt8)) (k : Nat) (x : List UInt8) (h : xs[k]? = some x) : totLen (xs.take (k + 1)) = totLen (xs.take k) + x.length := by
  rw [take_snoc xs k x h, totLen_append]; simp [totLen]
theorem totLen_take_le : ∀ (xs : List (List UInt8)) (k : Nat), totLen (xs.take k) ≤ totLen xs
  | [], k => by simp [totLen]
  | x :: xs, 0 => by simp [totLen]
  | x :: xs, k + 1 => by have := totLen_take_le xs k; simp only [List.take_succ_cons, totLen]; omega
theorem totLen_of_sumMin (c : Nat) : ∀ xs, sumMin (c + 1) xs ≤ c → totLen xs = sumMin (c + 1) xs
  | [], _ => rfl
  | x :: xs, h => by
    simp only [sumMin] at h
    have := totLen_of_sumMin c xs (by omega)
    simp only [totLen, sumMin]
    omega

/-- Two texts, one behind the other. -/
theorem run_str_add {P : Program} (x y : List UInt8) (h : x.length + y.length ≤ 9223372036854775807) (w : World) :
    (Op.stringOp .add ⟨x.toArray⟩ ⟨y.toArray⟩).run P w = .ok (.string ⟨(x ++ y).toArray⟩) w := by
  rw [run_string_add_sum w _ _ (by simp [ByteArray.size]; omega), ByteArray.mk_append_mk]

end Go.Proofs.YtcjlbimmplejjaaGreatDoor.Frame
