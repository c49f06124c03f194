import Derived.Test.YtjnkgblcfoblcaaDoorWdY
import Derived.Test.YtjnkgblcfoblcaaDoorWdG
import Derived.Lib.SmallJoins
namespace Go.Proofs.YtjnkgblcfoblcaaDoor.WdS
open Go Go.RowKit Go.Proofs Go.Proofs.YtjnkgblcfoblcaaDoor.Sep Go.Proofs.YtjnkgblcfoblcaaDoor.Frame Go.Proofs.YtjnkgblcfoblcaaDoor.WdP Go.Proofs.YtjnkgblcfoblcaaDoor.WdT Go.Proofs.YtjnkgblcfoblcaaDoor.WdN Go.Proofs.YtjnkgblcfoblcaaDoor.WdC Go.Proofs.YtjnkgblcfoblcaaDoor.WdM

namespace CmdC
structure T where
  k : Int
  t : List UInt8
  d : List UInt8
def E (x : T) : List Value := [.int .i64 x.k, .string ⟨x.t.toArray⟩, .string ⟨x.d.toArray⟩]
def Ok (_ : T) : Prop := True
set_option maxRecDepth 100000 in
theorem dec {H : Type} {enc : TypeId × Value → H} {w : World} {base : Nat} {spare : Nat → Bool} {held : Bool} {n : Nat} {cs : List Value} {y : DataW H × List MemPlace} {d : TypeDesc} (_ : Tryd.prog.underlying 23 = some d)
    (h : DataW.trod enc Tryd.prog w base spare held n 23 cs = some y) : ∃ x, cs = E x ∧ Ok x := by
  obtain ⟨y0, y1, y2, m, -, hl, h0, h1, h2⟩ := Deep.trod_struct3 Tryd.underlying23 h
  rw [show Tryd.prog.cellsOf 23 = 3 by kernel_rfl] at hl
  have ci : Tryd.prog.cellsOf 3 = 1 := by kernel_rfl
  have cs1 : Tryd.prog.cellsOf 9 = 1 := by kernel_rfl
  match cs, hl with
  | [a, b, c], _ =>
    simp only [ci, cs1] at h0 h1 h2
    obtain ⟨k, e0, w0⟩ := int_in Tryd.underlying3 h0
    obtain ⟨t, e1, w1⟩ := string_in Tryd.underlying9 h1
    obtain ⟨d, e2, w2⟩ := string_in Tryd.underlying9 h2
    simp at e0 e1 e2
    subst e0; subst e1; subst e2
    exact ⟨⟨k, t, d⟩, rfl, trivial⟩
end CmdC
namespace DelC
structure T where
  t : List UInt8
  a : Int
  b : Int
  d : List UInt8
def E (x : T) : List Value := [.string ⟨x.t.toArray⟩, .int .i64 x.a, .int .i64 x.b, .string ⟨x.d.toArray⟩]
def Ok (_ : T) : Prop := True
set_option maxRecDepth 100000 in
theorem dec {H : Type} {enc : TypeId × Value → H} {w : World} {base : Nat} {spare : Nat → Bool} {held : Bool} {n : Nat} {cs : List Value} {y : DataW H × List MemPlace} {d : TypeDesc} (_ : Tryd.prog.underlying 25 = some d)
    (h : DataW.trod enc Tryd.prog w base spare held n 25 cs = some y) : ∃ x, cs = E x ∧ Ok x := by
  obtain ⟨y0, y1, y2, y3, m, -, hl, h0, h1, h2, h3⟩ := Go.Joins.trod_struct4 Tryd.underlying25 h
  rw [show Tryd.prog.cellsOf 25 = 4 by kernel_rfl] at hl
  have ci : Tryd.prog.cellsOf 3 = 1 := by kernel_rfl
  have cs1 : Tryd.prog.cellsOf 9 = 1 := by kernel_rfl
  match cs, hl with
  | [a, b, c, f], _ =>
    simp only [ci, cs1] at h0 h1 h2 h3
    obtain ⟨t, e0, w0⟩ := string_in Tryd.underlying9 h0
    obtain ⟨x, e1, w1⟩ := int_in Tryd.underlying3 h1
    obtain ⟨z, e2, w2⟩ := int_in Tryd.underlying3 h2
    obtain ⟨d, e3, w3⟩ := string_in Tryd.underlying9 h3
    simp at e0 e1 e2 e3
    subst e0; subst e1; subst e2; subst e3
    exact ⟨⟨t, x, z, d⟩, rfl, trivial⟩
end DelC

theorem law_of {W : World} {e : Ending} {w' : World} (h : Makes W (.bool true) e w') : Law W emp e w' := ⟨h.1, (St.start W).makes h⟩
theorem byte_of (a : Int) (h : (Lit.int .u8 a).wf = true) : ∃ c : UInt8, a = (c.toNat : Int) := by
  have : 0 ≤ a ∧ a < 256 := by simp [Lit.wf, IntKind.min, IntKind.max, IntKind.signed, IntKind.bits] at h; omega
  exact ⟨UInt8.ofNat a.toNat, by simp; omega⟩
theorem u32_of (a : Int) (h : (Lit.int .u32 a).wf = true) : ∃ c : Nat, a = c ∧ c < 4294967296 := by
  have : 0 ≤ a ∧ a < 4294967296 := by simp [Lit.wf, IntKind.min, IntKind.max, IntKind.signed, IntKind.bits] at h; omega
  exact ⟨a.toNat, by omega, by omega⟩
theorem read_walk (s : List UInt8) (_ : (⟨s.toArray⟩ : ByteArray).size ≤ maxLen) {W : World} (hG : Gl W) : Calls Tryd.prog 4 #[.string ⟨s.toArray⟩] W (Law W emp) := (read_law s W hG).mono fun _ _ => law_of
theorem one_walk (s : List UInt8) (_ : (⟨s.toArray⟩ : ByteArray).size ≤ maxLen) {W : World} (hG : Gl W) : Calls Tryd.prog 7 #[.string ⟨s.toArray⟩] W (Law W emp) := (WdO.one_law s W hG).mono fun _ _ => law_of
theorem known_walk {W : World} (hG : Gl W) : Calls Tryd.prog 9 #[] W (Law W emp) := (WdY.known_law W hG).mono fun _ _ => law_of
theorem write_walk (c : CmdC.T) (_ : CmdC.Ok c) (d : DelC.T) (_ : DelC.Ok d) (n : Int) (_ : (Lit.int .i64 n).wf = true) {W : World} (hG : Gl W) : Calls Tryd.prog 3 #[.agg (CmdC.E c).toArray, .agg (DelC.E d).toArray, .int .i64 n] W (Law W emp) :=
  (write_law c.k c.t c.d d.t d.a d.b d.d n W hG).mono fun _ _ => law_of
theorem back_walk (c : CmdC.T) (_ : CmdC.Ok c) (d : DelC.T) (_ : DelC.Ok d) (n : Int) (_ : (Lit.int .i64 n).wf = true) {W : World} (hG : Gl W) : Calls Tryd.prog 6 #[.agg (CmdC.E c).toArray, .agg (DelC.E d).toArray, .int .i64 n] W (Law W emp) :=
  (WdB.back_law c.k c.t c.d d.t d.a d.b d.d n W hG).mono fun _ _ => law_of
theorem bytes_walk (a : Int) (ha : (Lit.int .u8 a).wf = true) (s : List UInt8) (_ : (⟨s.toArray⟩ : ByteArray).size ≤ maxLen) {W : World} (hG : Gl W) : Calls Tryd.prog 5 #[.int .u8 a, .string ⟨s.toArray⟩] W (Law W emp) := by
  obtain ⟨c, rfl⟩ := byte_of a ha
  exact (WdY.bytes_law c s W hG).mono fun _ _ => law_of
theorem data_walk (a : List UInt8) (_ : (⟨a.toArray⟩ : ByteArray).size ≤ maxLen) (b : List UInt8) (_ : (⟨b.toArray⟩ : ByteArray).size ≤ maxLen) (m : Int) (hm : (Lit.int .u32 m).wf = true) (n : Int) (hn : (Lit.int .u32 n).wf = true) {W : World} (hG : Gl W) :
    Calls Tryd.prog 8 #[.string ⟨a.toArray⟩, .string ⟨b.toArray⟩, .int .u32 m, .int .u32 n] W (Law W emp) := by
  obtain ⟨m, rfl, hm2⟩ := u32_of m hm
  obtain ⟨n, rfl, hn2⟩ := u32_of n hn
  exact (WdO.data_law a b m n hm2 hn2 W hG).mono fun _ _ => law_of
end Go.Proofs.YtjnkgblcfoblcaaDoor.WdS
