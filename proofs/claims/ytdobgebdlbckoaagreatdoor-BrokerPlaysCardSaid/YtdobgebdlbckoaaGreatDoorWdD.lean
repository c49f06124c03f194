import Derived.Test.YtdobgebdlbckoaaGreatDoorWdC
import Derived.Deep.RegionHeld3
namespace Go.Proofs.YtdobgebdlbckoaaGreatDoor.WdD
open Go Go.RowKit Go.Proofs Go.Proofs.YtdobgebdlbckoaaGreatDoor.Sep Go.Proofs.YtdobgebdlbckoaaGreatDoor.Reg Go.Proofs.YtdobgebdlbckoaaGreatDoor.Frame Go.Proofs.YtdobgebdlbckoaaGreatDoor.WdP Go.Proofs.YtdobgebdlbckoaaGreatDoor.WdT Go.Proofs.YtdobgebdlbckoaaGreatDoor.WdN Go.Proofs.YtdobgebdlbckoaaGreatDoor.WdC

/-- A text, or none. -/
def txtV : Option (List UInt8) → Value
  | some s => .tuple #[.string ⟨s.toArray⟩, .bool true]
  | none => .tuple #[.string ⟨#[]⟩, .bool false]

def strV : Option (List UInt8) → Value
  | some s => .string ⟨s.toArray⟩
  | none => .string ⟨#[]⟩
set_option maxRecDepth 100000 in
theorem Fault_any (n : Int) (q : Value) (hq : strV (faultW n) = q) (W : World) (hG : Gl W) : Calls Tryz.prog 52 #[.int .i64 n] W (Makes W q) := by
  have HQ := Lib.hid hq
  clear hq
  have HS := St.start W
  cases hm : may n
  · have HN := Lib.hid fun w => number_any n false hm w
    have HP : Hid (faultW n = none) := Lib.hid (by unfold faultW; rw [if_neg (by rw [hm]; simp)])
    clear hm
    go_enter Tryz.func52, Tryz.ntmps52
    go_wp2_with fail
    refine (HN.out _).mono ?_
    rintro e w' ⟨rfl, rfl⟩
    go_wp2
    go_ret
    exact ⟨by rw [← HQ.out, HP.out]; rfl, HS.below⟩
  · obtain ⟨m, rfl, hm2⟩ := (may_nat n).1 hm
    have HN := Lib.hid fun w => number_any (m : Int) true hm w
    have HI := Lib.hid fun w h => Itoa_any (m : Int) m rfl (by omega) w h
    have HP : Hid (faultW m = some (wERR ++ 32 :: Lib.decDigits m)) := Lib.hid (by unfold faultW; rw [if_pos hm]; rfl)
    have hl := dec_len 19 m (by omega) (by omega)
    clear hm
    generalize Lib.decDigits m = d at *
    have ha1 := run_str_add (P := Tryz.prog) [69, 82, 82, 32] d (by simp; omega)
    simp only [List.cons_append, List.nil_append] at ha1
    go_enter Tryz.func52, Tryz.ntmps52
    go_wp2_with fail
    refine (HN.out _).mono ?_
    rintro e w' ⟨rfl, rfl⟩
    go_wp2_with fail
    refine (HI.out _ hG).mono ?_
    rintro e w' hq
    have h2 := HS.makes hq
    obtain ⟨rfl, -⟩ := hq
    go_wp2
    go_ret
    exact ⟨by rw [← HQ.out, HP.out]; rfl, h2.below⟩
theorem pre_yes {s : List UInt8} (h : Lib.hasPrefix s [69, 82, 82, 32] = true) : Lib.trimPrefix s [69, 82, 82, 32] = s.drop 4 ∧ faultedW s = num (s.drop 4) := by
  refine ⟨by unfold Lib.trimPrefix; rw [if_pos h]; rfl, ?_⟩
  obtain ⟨r, rfl⟩ := List.isPrefixOf_iff_prefix.1 (show [69, 82, 82, 32].isPrefixOf s = true from h)
  have e : ([69, 82, 82, 32] : List UInt8) ++ r = wERR ++ 32 :: r := rfl
  rw [e]
  unfold faultedW
  rw [cutB_at wERR r (by decide)]
  simp only
  rw [if_pos ⟨trivial, trivial⟩]; rfl
theorem pre_no {s : List UInt8} (h : Lib.hasPrefix s [69, 82, 82, 32] = false) : faultedW s = none := by
  unfold faultedW
  rcases cutB_cases s with ⟨x, r, rfl, hx, e⟩ | ⟨hx, e⟩
  · rw [e]
    simp only
    rw [if_neg]
    rintro ⟨rfl, -⟩
    simp [Lib.hasPrefix, wERR, List.isPrefixOf] at h
  · rw [e]; simp

set_option maxRecDepth 100000 in
theorem Faulted_any (s : List UInt8) (q : Value) (hq : numV (faultedW s) = q) (W : World) (hG : Gl W) (hE : Er W) (hs : s.length ≤ 1000000) : Calls Tryz.prog 28 #[.string ⟨s.toArray⟩] W (Makes W q) := by
  have HQ := Lib.hid hq
  clear hq
  have HS := St.start W
  have HC := Lib.hid fun w => Tryz.strings_CutPrefix ⟨s.toArray⟩ ⟨#[69, 82, 82, 32]⟩ w
  cases hp : Lib.hasPrefix s [69, 82, 82, 32]
  · have HP := Lib.hid (pre_no hp)
    have HC : Hid (∀ w, Calls Tryz.prog 49 #[.string ⟨s.toArray⟩, .string ⟨#[69, 82, 82, 32]⟩] w fun e w' => e = .returned (.tuple #[.string ⟨(Lib.trimPrefix s [69, 82, 82, 32]).toArray⟩, .bool false]) ∧ w' = w) := Lib.hid fun w => (HC.out w).mono fun e w' h => ⟨by rw [h.1, show Lib.hasPrefix (⟨s.toArray⟩ : ByteArray).data.toList (⟨#[69, 82, 82, 32]⟩ : ByteArray).data.toList = false from hp], h.2⟩
    clear hp
    go_enter Tryz.func28, Tryz.ntmps28
    go_wp2_with fail
    refine (HC.out _).mono ?_
    rintro e w' ⟨rfl, rfl⟩
    go_wp2
    go_ret2
    exact ⟨by rw [← HQ.out, HP.out]; rfl, HS.below⟩
  · have HP := Lib.hid (pre_yes hp)
    have HC : Hid (∀ w, Calls Tryz.prog 49 #[.string ⟨s.toArray⟩, .string ⟨#[69, 82, 82, 32]⟩] w fun e w' => e = .returned (.tuple #[.string ⟨(s.drop 4).toArray⟩, .bool true]) ∧ w' = w) := Lib.hid fun w => (HC.out w).mono fun e w' h => ⟨by rw [h.1, show Lib.hasPrefix (⟨s.toArray⟩ : ByteArray).data.toList (⟨#[69, 82, 82, 32]⟩ : ByteArray).data.toList = true from hp, show Lib.trimPrefix (⟨s.toArray⟩ : ByteArray).data.toList (⟨#[69, 82, 82, 32]⟩ : ByteArray).data.toList = s.drop 4 from HP.out.1], h.2⟩
    have hl : (s.drop 4).length ≤ s.length := by simp
    have hfin : numV (num (s.drop 4)) = q := by rw [← HQ.out, HP.out.2]
    have HR := Lib.hid fun w h hE => read_any (s.drop 4) _ rfl w h hE (by omega)
    clear hp HP HQ
    generalize s.drop 4 = r at *
    cases hn : num r with
    | none =>
      rw [hn] at hfin HR
      have HF := Lib.hid hfin
      simp only [numV] at HR
      clear hn hfin
      go_enter Tryz.func28, Tryz.ntmps28
      go_wp2_with fail
      refine (HC.out _).mono ?_
      rintro e w' ⟨rfl, rfl⟩
      go_wp2_with fail
      refine (HR.out _ hG hE).mono ?_
      rintro e w' hq
      have h2 := HS.makes hq
      obtain ⟨rfl, -⟩ := hq
      go_wp2
      go_ret2
      exact ⟨by rw [← HF.out]; rfl, h2.below⟩
    | some n =>
      rw [hn] at hfin HR
      have HF := Lib.hid hfin
      simp only [numV] at HR
      clear hn hfin
      go_enter Tryz.func28, Tryz.ntmps28
      go_wp2_with fail
      refine (HC.out _).mono ?_
      rintro e w' ⟨rfl, rfl⟩
      go_wp2_with fail
      refine (HR.out _ hG hE).mono ?_
      rintro e w' hq
      have h2 := HS.makes hq
      obtain ⟨rfl, -⟩ := hq
      go_wp2
      go_ret2
      exact ⟨by rw [← HF.out]; rfl, h2.below⟩

end Go.Proofs.YtdobgebdlbckoaaGreatDoor.WdD
