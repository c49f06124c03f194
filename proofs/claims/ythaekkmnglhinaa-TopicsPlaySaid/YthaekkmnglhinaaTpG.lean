import Derived.Test.YthaekkmnglhinaaTpV
namespace Go.Proofs.Ythaekkmnglhinaa.TpG
open Go Go.RowKit Go.Proofs Go.Proofs.Ythaekkmnglhinaa.Sep Go.Proofs.Ythaekkmnglhinaa.Reg Go.Proofs.Ythaekkmnglhinaa.Frame Go.Proofs.Ythaekkmnglhinaa.TpP Go.Proofs.Ythaekkmnglhinaa.TpA

/-- What is done to a registry. -/
structure Act where
  d : Int
  t : Tx
  k : Int
namespace ActC
def E (x : Act) : List Value := [.int .u8 x.d, .string ⟨x.t.toArray⟩, .int .i64 x.k]
def Ok (x : Act) : Prop := (Lit.int .u8 x.d).wf = true ∧ x.t.length ≤ maxLen ∧ (Lit.int .i64 x.k).wf = true
theorem len (x : Act) : (E x).length = 3 := rfl
theorem dec {H : Type} {enc : TypeId × Value → H} {w : World} {base : Nat} {spare : Nat → Bool} {held : Bool} {n : Nat} {cs : List Value} {y : DataW H × List MemPlace} {d : TypeDesc} (_ : Try.prog.underlying 36 = some d)
    (h : DataW.trod enc Try.prog w base spare held n 36 cs = some y) : ∃ x, cs = E x ∧ Ok x := by
  obtain ⟨y0, y1, y2, m, -, hl, h0, h1, h2⟩ := Deep.trod_struct3 Try.underlying36 h
  rw [show Try.prog.cellsOf 36 = 3 by kernel_rfl] at hl
  have ci : Try.prog.cellsOf 3 = 1 := by kernel_rfl
  have cu : Try.prog.cellsOf 5 = 1 := by kernel_rfl
  have cs' : Try.prog.cellsOf 9 = 1 := by kernel_rfl
  match cs, hl with
  | [a, b, c], _ =>
    simp only [ci, cu, cs'] at h0 h1 h2
    obtain ⟨d, e0, w0⟩ := int_in Try.underlying5 h0
    obtain ⟨t, e1, w1⟩ := string_in Try.underlying9 h1
    obtain ⟨k, e2, w2⟩ := int_in Try.underlying3 h2
    simp at e0 e1 e2
    subst e0; subst e1; subst e2
    exact ⟨⟨d, t, k⟩, rfl, w0, w1, w2⟩
end ActC
theorem act_at_all {W : World} {a : Option Addr} {n c : Nat} {xs : List Act} (h : Sl W 3 (.slice a n c) n (xs.flatMap ActC.E)) {k : Nat} {x : Act} (hk : xs[k]? = some x) :
    ∃ ab ao, a = some ⟨ab, ao, none⟩ ∧ ∀ w A, St W w A → ∀ j v, (ActC.E x)[j]? = some v → w.cell? ⟨ab, ao + k * 3 + j, none⟩ = some v := by
  have hg := flatMap_get (E := ActC.E) ActC.len xs k x hk
  have hlen : 0 < (xs.flatMap ActC.E).length := by
    have h0 := hg 0 (by omega)
    have := (List.getElem?_eq_some_iff.1 (show (xs.flatMap ActC.E)[k * 3 + 0]? = some (.int .u8 x.d) from h0)).1
    omega
  obtain ⟨ab, ao, rfl, hc⟩ := sl_addr h hlen
  refine ⟨ab, ao, rfl, fun w A hS j v hj => ?_⟩
  have hj3 : j < 3 := by have := (List.getElem?_eq_some_iff.1 hj).1; simpa [ActC.E] using this
  have hc := hc (k * 3 + j) v (by rw [hg j hj3]; exact hj)
  rw [← Nat.add_assoc] at hc
  exact (hS.old (World.block_lt_of_cell? W _ hc)).trans hc
/-- Great: either way; not, only where all is small. -/
def GPost (w : World) (xs : List Act) (e : Ending) (w' : World) : Prop := ∃ b, Makes w (.bool b) e w' ∧ (b = false → xs.length ≤ 150 ∧ ∀ x ∈ xs, x.t.length ≤ 60)
set_option maxRecDepth 100000 in
set_option maxHeartbeats 4000000 in
theorem Great_any (a0 : Option Addr) (len0 cap0 : Nat) (xs : List Act) (hlen : xs.length = len0) (w : World) (hsl : Sl w 3 (.slice a0 len0 cap0) len0 (xs.flatMap ActC.E)) :
    Calls Try.prog 16 #[.slice a0 len0 cap0] w (GPost w xs) := by
  have HSL := Lib.hid hsl
  have HLEN := Lib.hid hlen
  clear hsl hlen
  go_enter Try.func16, Try.ntmps16
  by_cases hb : len0 ≤ 150
  · have g1 : ¬ (150 : Int) < len0 := by omega
    go_wp2_with fail
    go_loopw [3] (fun iv wr => ∃ i : Nat, i ≤ len0 ∧ iv = .int .i64 i ∧ wr = w ∧ ∀ x ∈ xs.take i, x.t.length ≤ 60) (fun iv _ => len0 - (intOf iv).toNat)
    case atStart => exact ⟨0, Nat.zero_le _, rfl, rfl, by simp⟩
    case round =>
      obtain ⟨i, hi, rfl, rfl, ht⟩ := hrel
      have HT := Lib.hid ht
      clear ht
      by_cases hin : i < len0
      · obtain ⟨x, hx⟩ : ∃ x, xs[i]? = some x := ⟨_, List.getElem?_eq_getElem (by rw [HLEN.out]; exact hin)⟩
        obtain ⟨ab, ao, rfl, hel⟩ := act_at_all HSL.out hx
        have he1 := hel _ _ (St.start _) 1 _ rfl
        have hinI : (i : Int) < len0 := by omega
        have HX := Lib.hid hx
        clear hel hx
        by_cases h60 : x.t.length ≤ 60
        · have g2 : ¬ (60 : Int) < x.t.length := by omega
          go_wp2_with fail
          refine ⟨⟨i + 1, hin, by go_num, trivial, fun y hy => ?_⟩, by simp [intOf]; omega⟩
          rw [List.take_add_one, HX.out] at hy
          rcases List.mem_append.1 hy with h | h
          · exact HT.out y h
          · obtain rfl : y = x := by simpa using h
            exact h60
        · have g2 : (60 : Int) < x.t.length := by omega
          go_wp2_with fail
          go_ret
          exact ⟨true, Makes.mk0 _ _, fun h => by cases h⟩
      · obtain rfl : i = len0 := by omega
        go_wp2_with fail
        go_ret
        exact ⟨false, Makes.mk0 _ _, fun _ => ⟨by rw [HLEN.out]; exact hb, fun y hy => HT.out y (by rw [List.take_of_length_le (by rw [HLEN.out]; exact Nat.le_refl _)]; exact hy)⟩⟩
  · have g1 : (150 : Int) < len0 := by omega
    go_wp2_with fail
    go_ret
    exact ⟨true, Makes.mk0 _ _, fun h => by cases h⟩
end Go.Proofs.Ythaekkmnglhinaa.TpG
