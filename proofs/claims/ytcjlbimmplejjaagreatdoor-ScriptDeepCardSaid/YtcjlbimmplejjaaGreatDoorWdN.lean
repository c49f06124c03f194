import Derived.Test.YtcjlbimmplejjaaGreatDoorWdT
import Derived.WalkSmall
import Derived.Lib.AppendIntMem
import Derived.Lib.AtoiErrMem
namespace Go.Proofs.YtcjlbimmplejjaaGreatDoor.WdN
open Go Go.RowKit Go.Proofs Go.Proofs.YtcjlbimmplejjaaGreatDoor.Sep Go.Proofs.YtcjlbimmplejjaaGreatDoor.Reg Go.Proofs.YtcjlbimmplejjaaGreatDoor.Frame Go.Proofs.YtcjlbimmplejjaaGreatDoor.WdP Go.Proofs.YtcjlbimmplejjaaGreatDoor.WdT

/-- What the library's variables hold. -/
def Gl (w : World) : Prop :=
  (∃ m, w.cell? ⟨0, 0, none⟩ = some (.int .i64 m)) ∧
  Lib.TabIs Tryz.prog w "internal/strconv.uint64pow10" .u64 Lib.pow10Tab
/-- What its two errors hold. -/
def Er (w : World) : Prop :=
  (∃ ev, w.cell? ⟨4, 0, none⟩ = some ev ∧ (ev = .nilIface ∨ ∃ te pe, ev = .iface te pe)) ∧
  (∃ ev, w.cell? ⟨5, 0, none⟩ = some ev ∧ (ev = .nilIface ∨ ∃ te pe, ev = .iface te pe))
theorem cell_past {w w' : World} {a : Addr} {v : Value} (h : w.cell? a = some v) (hb : Below w.heap.size w w') : w'.cell? a = some v :=
  (hb.cell (World.block_lt_of_cell? w _ h)).trans h
theorem tab_past {w w' : World} (h : Lib.TabIs Tryz.prog w "internal/strconv.uint64pow10" .u64 Lib.pow10Tab) (hb : Below w.heap.size w w') : Lib.TabIs Tryz.prog w' "internal/strconv.uint64pow10" .u64 Lib.pow10Tab := by
  have hg : Tryz.prog.globalNamed "internal/strconv.uint64pow10" = some 1 := by kernel_rfl
  refine var?_below hb hg ?_ h
  unfold Lib.TabIs World.var? at h
  rw [hg] at h
  rcases Nat.lt_or_ge 1 w.heap.size with h' | h'
  · exact h'
  · simp [Array.getElem?_eq_none h'] at h
theorem Gl.below {w w' : World} (h : Gl w) (hb : Below w.heap.size w w') : Gl w' := by
  obtain ⟨⟨m, h1⟩, h2⟩ := h
  exact ⟨⟨m, cell_past h1 hb⟩, tab_past h2 hb⟩
theorem Er.below {w w' : World} (h : Er w) (hb : Below w.heap.size w w') : Er w' := by
  obtain ⟨⟨e1, h3, h4⟩, ⟨e2, h5, h6⟩⟩ := h
  exact ⟨⟨e1, cell_past h3 hb, h4⟩, ⟨e2, cell_past h5 hb, h6⟩⟩
theorem Er.st {W w : World} {A : Asn} (h : Er W) (hS : St W w A) : Er w := h.below hS.below
theorem Gl.st {W w : World} {A : Asn} (h : Gl W) (hS : St W w A) : Gl w := h.below hS.below

theorem cut_any {s a r : List UInt8} {k : Bool} (h : cutB s = (a, r, k)) (w : World) (hG : Gl w) (hs : s.length ≤ 1000000) :
    Calls Tryz.prog 68 #[.string ⟨s.toArray⟩, .string ⟨#[32]⟩] w (Quiet w (.tuple #[.string ⟨a.toArray⟩, .string ⟨r.toArray⟩, .bool k])) := by
  obtain ⟨m, hm⟩ := hG.1
  refine (Tryz.strings_Cut ⟨s.toArray⟩ ⟨#[32]⟩ m w (by simp [ByteArray.size]; omega) hm).mono ?_
  rintro e w' ⟨rfl, n, rfl⟩
  have hc : Lib.cut ((⟨s.toArray⟩ : ByteArray).data.toList) ((⟨#[32]⟩ : ByteArray).data.toList) = (a, r, k) := by rw [← h, ← cut_lib]
  rw [hc]
  exact ⟨rfl, n, rfl⟩

theorem Itoa_any (n : Int) (m : Nat) (hm : n = m) (h : m < 9223372036854775808) (w : World) (hG : Gl w) : Calls Tryz.prog 37 #[.int .i64 n] w (Makes w (.string ⟨(Lib.decDigits m).toArray⟩)) := by
  subst hm
  refine (Tryz.strconv_Itoa m (by omega) (by omega) w hG.2).mono ?_
  rintro e w' ⟨rfl, k, os, rfl⟩
  rw [Lib.itoa_nonneg]
  exact ⟨rfl, Lib.below_grow _ w (Nat.le_refl _) k os⟩

/-- What Atoi tells, and read's answer of it. -/
def AtoiPost (w : World) (s : List UInt8) (e : Ending) (w' : World) : Prop :=
  Below w.heap.size w w' ∧ ((∃ v : Int, Lib.atoiAll s = .ok v ∧ e = .returned (.tuple #[.int .i64 v, .nilIface])) ∨ (num s = none ∧ ∃ v t p, e = .returned (.tuple #[.int .i64 v, .iface t p])))
theorem Atoi_any (s : List UInt8) (w : World) (hG : Er w) (hs : s.length ≤ 1000000) : Calls Tryz.prog 69 #[.string ⟨s.toArray⟩] w (AtoiPost w s) := by
  have hz : (⟨s.toArray⟩ : ByteArray).size = s.length := by simp [ByteArray.size]
  have hd : (⟨s.toArray⟩ : ByteArray).data.toList = s := by simp
  obtain ⟨⟨e1, h3, h4⟩, ⟨e2, h5, h6⟩⟩ := hG
  have hn := num_atoi s
  rcases h : Lib.atoiAll s with v | _ | _
  · refine (Tryz.strconv_Atoi_ok ⟨s.toArray⟩ (by omega) v (by rw [hd]; exact h) w).mono ?_
    rintro e w' ⟨rfl, hw⟩
    refine ⟨?_, .inl ⟨v, h, rfl⟩⟩
    rcases hw with rfl | ⟨t, rfl⟩
    · exact Below.refl _ _
    · exact Lib.bytesWorld_below w _ t
  · rw [h] at hn
    refine (Any.strconv_Atoi_syntax Tryz.laysC172 ⟨s.toArray⟩ (by omega) (by rw [hd]; exact h) e1 w h3 h4).mono ?_
    rintro e w' ⟨N, rfl, -, -, hb⟩
    exact ⟨hb, .inr ⟨hn, _, _, _, rfl⟩⟩
  · rw [h] at hn
    refine (Tryz.strconv_Atoi_range ⟨s.toArray⟩ (by omega) (by rw [hd]; exact h) e2 w h5 h6).mono ?_
    rintro e w' ⟨N, rfl, -, -, hb⟩
    exact ⟨hb, .inr ⟨hn, _, _, _, rfl⟩⟩

def numV : Option Nat → Value
  | some n => .tuple #[.int .i64 n, .bool true]
  | none => .tuple #[.int .i64 0, .bool false]
theorem may_nat (v : Int) : may v = true ↔ ∃ m : Nat, v = m ∧ m ≤ 4611686018427387904 := by
  unfold may
  simp only [Bool.and_eq_true, decide_eq_true_eq]
  constructor
  · rintro ⟨h1, h2⟩; exact ⟨v.toNat, by omega, by omega⟩
  · rintro ⟨m, rfl, h⟩; omega

theorem digits_small {n : Nat} (h : n < 10) : Lib.decDigits n = [UInt8.ofNat (48 + n)] := Lib.decDigits_one h

def intV : Option Nat → Value
  | some n => .int .i64 n
  | none => .int .i64 (-1)
theorem numFrom_none_digit {c : UInt8} {r : List UInt8} {q : Nat} (h : c.toNat < 48 ∨ 57 < c.toNat ∨ 461168601842738791 < q) : numFrom q (c :: r) = none := by
  simp only [numFrom]; rw [if_pos h]
theorem numFrom_none_big {c : UInt8} {r : List UInt8} {q : Nat} (h1 : ¬ (c.toNat < 48 ∨ 57 < c.toNat ∨ 461168601842738791 < q)) (h : 4611686018427387904 < 10 * q + (c.toNat - 48)) : numFrom q (c :: r) = none := by
  simp only [numFrom]; rw [if_neg h1, if_pos h]
theorem numFrom_step {c : UInt8} {r : List UInt8} {q : Nat} (h1 : ¬ (c.toNat < 48 ∨ 57 < c.toNat ∨ 461168601842738791 < q)) (h : ¬ 4611686018427387904 < 10 * q + (c.toNat - 48)) : numFrom q (c :: r) = numFrom (10 * q + (c.toNat - 48)) r := by
  rw [numFrom, if_neg h1, if_neg h]

end Go.Proofs.YtcjlbimmplejjaaGreatDoor.WdN
