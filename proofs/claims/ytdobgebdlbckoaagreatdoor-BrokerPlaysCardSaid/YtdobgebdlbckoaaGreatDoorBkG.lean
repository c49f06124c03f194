import Derived.Test.YtdobgebdlbckoaaGreatDoorBkW
import Derived.Lib.SmallJoins
namespace Go.Proofs.YtdobgebdlbckoaaGreatDoor.BkG
open Go Go.RowKit Go.Proofs Go.Proofs.YtdobgebdlbckoaaGreatDoor.Sep Go.Proofs.YtdobgebdlbckoaaGreatDoor.Reg Go.Proofs.YtdobgebdlbckoaaGreatDoor.Frame Go.Proofs.YtdobgebdlbckoaaGreatDoor.TpP Go.Proofs.YtdobgebdlbckoaaGreatDoor.TpA

/-- What is done to a broker. -/
structure Act where
  d : Int
  k : Int
  o : Int
  t : Tx
namespace ActC
def E (x : Act) : List Value := [.int .u8 x.d, .int .i64 x.k, .int .i64 x.o, .string ⟨x.t.toArray⟩]
def Ok (x : Act) : Prop := (Lit.int .u8 x.d).wf = true ∧ (Lit.int .i64 x.k).wf = true ∧ (Lit.int .i64 x.o).wf = true ∧ x.t.length ≤ maxLen
theorem len (x : Act) : (E x).length = 4 := rfl
set_option maxRecDepth 100000 in
theorem dec {H : Type} {enc : TypeId × Value → H} {w : World} {base : Nat} {spare : Nat → Bool} {held : Bool} {n : Nat} {cs : List Value} {y : DataW H × List MemPlace} {d : TypeDesc} (_ : Tryz.prog.underlying 28 = some d)
    (h : DataW.trod enc Tryz.prog w base spare held n 28 cs = some y) : ∃ x, cs = E x ∧ Ok x := by
  obtain ⟨y0, y1, y2, y3, m, -, hl, h0, h1, h2, h3⟩ := Go.Joins.trod_struct4 Tryz.underlying28 h
  rw [show Tryz.prog.cellsOf 28 = 4 by kernel_rfl] at hl
  have ci : Tryz.prog.cellsOf 3 = 1 := by kernel_rfl
  have cu : Tryz.prog.cellsOf 5 = 1 := by kernel_rfl
  have cs' : Tryz.prog.cellsOf 9 = 1 := by kernel_rfl
  match cs, hl with
  | [a, b, c, e], _ =>
    simp only [ci, cu, cs'] at h0 h1 h2 h3
    obtain ⟨d, e0, w0⟩ := int_in Tryz.underlying5 h0
    obtain ⟨k, e1, w1⟩ := int_in Tryz.underlying3 h1
    obtain ⟨o, e2, w2⟩ := int_in Tryz.underlying3 h2
    obtain ⟨t, e3, w3⟩ := string_in Tryz.underlying9 h3
    simp at e0 e1 e2 e3
    subst e0; subst e1; subst e2; subst e3
    exact ⟨⟨d, k, o, t⟩, rfl, w0, w1, w2, w3⟩
end ActC
theorem act_at_all {W : World} {a : Option Addr} {n c : Nat} {xs : List Act} (h : Sl W 4 (.slice a n c) n (xs.flatMap ActC.E)) {k : Nat} {x : Act} (hk : xs[k]? = some x) :
    ∃ ab ao, a = some ⟨ab, ao, none⟩ ∧ ∀ w A, St W w A → ∀ j v, (ActC.E x)[j]? = some v → w.cell? ⟨ab, ao + k * 4 + j, none⟩ = some v := by
  have hg := flatMap_get (E := ActC.E) ActC.len xs k x hk
  have hlen : 0 < (xs.flatMap ActC.E).length := by
    have h0 := hg 0 (by omega)
    have := (List.getElem?_eq_some_iff.1 (show (xs.flatMap ActC.E)[k * 4 + 0]? = some (.int .u8 x.d) from h0)).1
    omega
  obtain ⟨ab, ao, rfl, hc⟩ := sl_addr h hlen
  refine ⟨ab, ao, rfl, fun w A hS j v hj => ?_⟩
  have hj3 : j < 4 := by have := (List.getElem?_eq_some_iff.1 hj).1; simpa [ActC.E] using this
  have hc := hc (k * 4 + j) v (by rw [hg j hj3]; exact hj)
  rw [← Nat.add_assoc] at hc
  exact (hS.old (World.block_lt_of_cell? W _ hc)).trans hc
/-- Great: either way; not, only where all is small. -/
def GPost (w : World) (xs : List Act) (e : Ending) (w' : World) : Prop := ∃ b, Makes w (.bool b) e w' ∧ (b = false → xs.length ≤ 150 ∧ ∀ x ∈ xs, x.t.length ≤ 100)
set_option maxRecDepth 100000 in
set_option maxHeartbeats 4000000 in
theorem Great_any (a0 : Option Addr) (len0 cap0 : Nat) (xs : List Act) (hlen : xs.length = len0) (w : World) (hsl : Sl w 4 (.slice a0 len0 cap0) len0 (xs.flatMap ActC.E)) :
    Calls Tryz.prog 8 #[.slice a0 len0 cap0] w (GPost w xs) := by
  have HSL := Lib.hid hsl
  have HLEN := Lib.hid hlen
  clear hsl hlen
  go_enter Tryz.func8, Tryz.ntmps8
  by_cases hb : len0 ≤ 150
  · have g1 : ¬ (150 : Int) < len0 := by omega
    go_wp2_with fail
    go_loopw [3] (fun iv wr => ∃ i : Nat, i ≤ len0 ∧ iv = .int .i64 i ∧ wr = w ∧ ∀ x ∈ xs.take i, x.t.length ≤ 100) (fun iv _ => len0 - (intOf iv).toNat)
    case atStart => exact ⟨0, Nat.zero_le _, rfl, rfl, by simp⟩
    case round =>
      obtain ⟨i, hi, rfl, rfl, ht⟩ := hrel
      have HT := Lib.hid ht
      clear ht
      by_cases hin : i < len0
      · obtain ⟨x, hx⟩ : ∃ x, xs[i]? = some x := ⟨_, List.getElem?_eq_getElem (by rw [HLEN.out]; exact hin)⟩
        obtain ⟨ab, ao, rfl, hel⟩ := act_at_all HSL.out hx
        have he1 := hel _ _ (St.start _) 3 _ rfl
        have hinI : (i : Int) < len0 := by omega
        have HX := Lib.hid hx
        clear hel hx
        by_cases h60 : x.t.length ≤ 100
        · have g2 : ¬ (100 : Int) < x.t.length := by omega
          go_wp2_with fail
          refine ⟨⟨i + 1, hin, by go_num, trivial, fun y hy => ?_⟩, by simp [intOf]; omega⟩
          rw [List.take_add_one, HX.out] at hy
          rcases List.mem_append.1 hy with h | h
          · exact HT.out y h
          · obtain rfl : y = x := by simpa using h
            exact h60
        · have g2 : (100 : Int) < x.t.length := by omega
          go_wp2_with fail
          go_ret
          exact ⟨true, Makes.mk0 _ _, fun h => by cases h⟩
      · obtain rfl : i = len0 := by omega
        go_wp2_with fail
        go_ret
        exact ⟨false, Makes.mk0 _ _, fun _ => ⟨by rw [HLEN.out]; exact hb, fun y hy => HT.out y (by rw [List.take_of_length_le (by rw [HLEN.out]; exact Nat.le_refl _)]; exact hy)⟩⟩
  · have g1 : (150 : Int) < len0 := by omega
    go_wp2_with fail
    go_ret
    exact ⟨true, Makes.mk0 _ _, fun h => by cases h⟩
end Go.Proofs.YtdobgebdlbckoaaGreatDoor.BkG
