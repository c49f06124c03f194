import Derived.Test.YtdobgebdlbckoaaDoorWdC
import Derived.Deep.RegionHeld3
namespace Go.Proofs.YtdobgebdlbckoaaDoor.WdD
open Go Go.RowKit Go.Proofs Go.Proofs.YtdobgebdlbckoaaDoor.Sep Go.Proofs.YtdobgebdlbckoaaDoor.Reg Go.Proofs.YtdobgebdlbckoaaDoor.Frame Go.Proofs.YtdobgebdlbckoaaDoor.WdP Go.Proofs.YtdobgebdlbckoaaDoor.WdT Go.Proofs.YtdobgebdlbckoaaDoor.WdN Go.Proofs.YtdobgebdlbckoaaDoor.WdC

/-- A text, or none. -/
def txtV : Option (List UInt8) → Value
  | some s => .tuple #[.string ⟨s.toArray⟩, .bool true]
  | none => .tuple #[.string ⟨#[]⟩, .bool false]

def strV : Option (List UInt8) → Value
  | some s => .string ⟨s.toArray⟩
  | none => .string ⟨#[]⟩
set_option maxRecDepth 100000 in
theorem Fault_any (n : Int) (q : Value) (hq : strV (faultW n) = q) (W : World) (hG : Gl W) : Calls Tryd.prog 28 #[.int .i64 n] W (Makes W q) := by
  have HQ := Lib.hid hq
  clear hq
  have HS := St.start W
  cases hm : may n
  · have HN := Lib.hid fun w => number_any n false hm w
    have HP : Hid (faultW n = none) := Lib.hid (by unfold faultW; rw [if_neg (by rw [hm]; simp)])
    clear hm
    go_enter Tryd.func28, Tryd.ntmps28
    go_wp2_with fail
    refine (HN.out _).mono ?_
    rintro e w' ⟨rfl, rfl⟩
    go_wp2
    go_ret
    exact ⟨by rw [← HQ.out, HP.out]; rfl, HS.below⟩
  · obtain ⟨m, rfl, hm2⟩ := (may_nat n).1 hm
    have HN := Lib.hid fun w => number_any (m : Int) true hm w
    have HI := Lib.hid fun w h => Itoa_any (m : Int) m rfl (by omega) w h
    have HP : Hid (faultW m = some (wERR ++ 32 :: Lib.decDigits m)) := Lib.hid (by unfold faultW; rw [if_pos hm]; rfl)
    have hl := dec_len 19 m (by omega) (by omega)
    clear hm
    generalize Lib.decDigits m = d at *
    have ha1 := run_str_add (P := Tryd.prog) [69, 82, 82, 32] d (by simp; omega)
    simp only [List.cons_append, List.nil_append] at ha1
    go_enter Tryd.func28, Tryd.ntmps28
    go_wp2_with fail
    refine (HN.out _).mono ?_
    rintro e w' ⟨rfl, rfl⟩
    go_wp2_with fail
    refine (HI.out _ hG).mono ?_
    rintro e w' hq
    have h2 := HS.makes hq
    obtain ⟨rfl, -⟩ := hq
    go_wp2
    go_ret
    exact ⟨by rw [← HQ.out, HP.out]; rfl, h2.below⟩
theorem pre_yes {s : List UInt8} (h : Lib.hasPrefix s [69, 82, 82, 32] = true) : Lib.trimPrefix s [69, 82, 82, 32] = s.drop 4 ∧ faultedW s = num (s.drop 4) := by
  refine ⟨by unfold Lib.trimPrefix; rw [if_pos h]; rfl, ?_⟩
  obtain ⟨r, rfl⟩ := List.isPrefixOf_iff_prefix.1 (show [69, 82, 82, 32].isPrefixOf s = true from h)
  have e : ([69, 82, 82, 32] : List UInt8) ++ r = wERR ++ 32 :: r := rfl
  rw [e]
  unfold faultedW
  rw [cutB_at wERR r (by decide)]
  simp only
  rw [if_pos ⟨trivial, trivial⟩]; rfl
theorem pre_no {s : List UInt8} (h : Lib.hasPrefix s [69, 82, 82, 32] = false) : faultedW s = none := by
  unfold faultedW
  rcases cutB_cases s with ⟨x, r, rfl, hx, e⟩ | ⟨hx, e⟩
  · rw [e]
    simp only
    rw [if_neg]
    rintro ⟨rfl, -⟩
    simp [Lib.hasPrefix, wERR, List.isPrefixOf] at h
  · rw [e]; simp

end Go.Proofs.YtdobgebdlbckoaaDoor.WdD
