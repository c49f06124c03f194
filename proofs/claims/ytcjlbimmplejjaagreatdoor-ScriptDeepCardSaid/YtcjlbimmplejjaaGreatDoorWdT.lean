import Derived.Test.YtcjlbimmplejjaaGreatDoorShelf
import Derived.Test.YtcjlbimmplejjaaGreatDoorGen
import Derived.Test.YtcjlbimmplejjaaGreatDoorReg
import Derived.Test.YtcjlbimmplejjaaGreatDoorWdP
namespace Go.Proofs.YtcjlbimmplejjaaGreatDoor.WdT
open Go Go.RowKit Go.Proofs Go.Proofs.YtcjlbimmplejjaaGreatDoor.Sep Go.Proofs.YtcjlbimmplejjaaGreatDoor.Reg Go.Proofs.YtcjlbimmplejjaaGreatDoor.Frame Go.Proofs.YtcjlbimmplejjaaGreatDoor.WdP

/-- A call that only computes. -/
def Same (w : World) (v : Value) (e : Ending) (w' : World) : Prop := e = .returned v ∧ w' = w
theorem Same.makes {w w' : World} {v : Value} {e : Ending} (h : Same w v e w') : Makes w v e w' := by
  obtain ⟨rfl, rfl⟩ := h; exact Makes.mk0 _ _
theorem Same.eq {w w' : World} {u v : Value} {e : Ending} (h : Same w u e w') (h2 : u = v) : Same w v e w' := h2 ▸ h
theorem byte_ne {x c : UInt8} (h : x ≠ c) : ((x.toNat : Int) == (c.toNat : Int)) = false := by
  simp only [beq_eq_false_iff_ne, ne_eq]
  intro e
  exact h (UInt8.toNat_inj.1 (by omega))
theorem drop_byte (s : List UInt8) (i : Nat) (h : i < (ByteArray.mk s.toArray).size) : s.drop i = (ByteArray.mk s.toArray)[i]'h :: s.drop (i + 1) := by
  have h' : i < s.length := by simpa [ByteArray.size] using h
  rw [List.drop_eq_getElem_cons h']; rfl
theorem get_byte (s : List UInt8) (i : Nat) (h : i < (ByteArray.mk s.toArray).size) : s[i]? = some ((ByteArray.mk s.toArray)[i]'h) := by
  have h' : i < s.length := by simpa [ByteArray.size] using h
  rw [List.getElem?_eq_getElem h']; rfl
theorem ret_bool {a b : Bool} (h : a = b) : Ending.returned (.bool a) = .returned (.bool b) := by rw [h]

theorem indexByte_none : ∀ (l : List UInt8) (c : UInt8), l.contains c = false → Lib.indexByte l c = -1
  | [], _, _ => rfl
  | b :: l, c, h => by
    simp only [List.contains_cons, Bool.or_eq_false_iff, beq_eq_false_iff_ne, ne_eq] at h
    have h1 : (b == c) = false := by simpa using fun e => h.1 e.symm
    have h2 := indexByte_none l c h.2
    simp [Lib.indexByte, h1, h2]
theorem indexByte_some : ∀ (l : List UInt8) (c : UInt8), l.contains c = true → ∃ k : Nat, Lib.indexByte l c = k ∧ l[k]? = some c ∧ k < l.length
  | [], _, h => by simp at h
  | b :: l, c, h => by
    by_cases hb : b = c
    · subst hb; exact ⟨0, by simp [Lib.indexByte], rfl, by simp⟩
    · have h1 : (b == c) = false := by simpa using hb
      have h3 : (c == b) = false := by simpa using fun e => hb e.symm
      simp only [List.contains_cons, h3, Bool.false_or] at h
      obtain ⟨k, hk, hg, hl⟩ := indexByte_some l c h
      refine ⟨k + 1, ?_, by simpa using hg, by simp; omega⟩
      have : ((k : Int) == -1) = false := by simp
      simp [Lib.indexByte, h1, hk, this]
def Found (w : World) (l : List UInt8) (c : UInt8) (e : Ending) (w' : World) : Prop := ∃ k : Nat, e = .returned (.int .i64 (k : Int)) ∧ l[k]? = some c ∧ k < l.length ∧ w' = w
theorem IndexByte_yes (l : List UInt8) (c : UInt8) (w : World) (h : l.contains c = true) : Calls Tryz.prog 31 #[.string ⟨l.toArray⟩, .int .u8 c.toNat] w (Found w l c) := by
  refine (Tryz.strings_IndexByte ⟨l.toArray⟩ c.toNat w).mono ?_
  rintro e w' ⟨rfl, rfl⟩
  obtain ⟨k, hk, hg, hl⟩ := indexByte_some l c h
  refine ⟨k, ?_, hg, hl, rfl⟩
  have : ((c.toNat : Int)).toNat.toUInt8 = c := by simp
  rw [this]
  exact congrArg _ (int_eq hk)
theorem IndexByte_no (l : List UInt8) (c : UInt8) (w : World) (h : l.contains c = false) : Calls Tryz.prog 31 #[.string ⟨l.toArray⟩, .int .u8 c.toNat] w (Same w (.int .i64 (-1))) := by
  refine (Tryz.strings_IndexByte ⟨l.toArray⟩ c.toNat w).mono ?_
  rintro e w' ⟨rfl, rfl⟩
  have : ((c.toNat : Int)).toNat.toUInt8 = c := by simp
  rw [this]
  exact ⟨congrArg _ (int_eq (indexByte_none l c h)), rfl⟩

/-! ### The tokens of the program -/
def letB (c : UInt8) : Bool := (97 ≤ c.toNat && c.toNat ≤ 122) || (65 ≤ c.toNat && c.toNat ≤ 90) || (48 ≤ c.toNat && c.toNat ≤ 57)
theorem letB_class (c : UInt8) : (letB c = true ∧ ((97 ≤ c.toNat ∧ c.toNat ≤ 122) ∨ (65 ≤ c.toNat ∧ c.toNat ≤ 90) ∨ (48 ≤ c.toNat ∧ c.toNat ≤ 57))) ∨
    (letB c = false ∧ (c.toNat < 48 ∨ (57 < c.toNat ∧ c.toNat < 65) ∨ (90 < c.toNat ∧ c.toNat < 97) ∨ 122 < c.toNat)) := by
  have hc := c.toNat_lt
  unfold letB
  by_cases h1 : (97 ≤ c.toNat ∧ c.toNat ≤ 122) ∨ (65 ≤ c.toNat ∧ c.toNat ≤ 90) ∨ (48 ≤ c.toNat ∧ c.toNat ≤ 57)
  · left
    refine ⟨?_, h1⟩
    simp; omega
  · right
    refine ⟨?_, by omega⟩
    simp; omega
theorem tchar_let (c : UInt8) : tchar c = (letB c || ([33, 35, 36, 37, 38, 39, 42, 43, 45, 46, 94, 95, 96, 124, 126] : List UInt8).contains c) := rfl

def alls : List UInt8 := [65, 66, 67, 68, 69, 70, 71, 72, 73, 74, 75, 76, 77, 78, 79, 80, 81, 82, 83, 84, 85, 86, 87, 88, 89, 90, 97, 98, 99, 100, 101, 102, 103, 104, 105, 106, 107, 108, 109, 110, 111, 112, 113, 114, 115, 116, 117, 118, 119, 120, 121, 122, 48, 49, 50, 51, 52, 53, 54, 55, 56, 57, 33, 35, 36, 37, 38, 39, 42, 43, 45, 46, 94, 95, 96, 124, 126]
theorem alls_eq (c : UInt8) : alls.contains c = tchar c := by
  have h : ∀ n : Fin 256, alls.contains (UInt8.ofNat n.val) = tchar (UInt8.ofNat n.val) := by decide +kernel
  have := h ⟨c.toNat, c.toNat_lt⟩
  simpa using this

end Go.Proofs.YtcjlbimmplejjaaGreatDoor.WdT
